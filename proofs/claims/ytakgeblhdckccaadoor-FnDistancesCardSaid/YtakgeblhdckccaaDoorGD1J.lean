/- The distances from a vertex: the rounds in which a set grows; the program's row. -/
import Derived.Test.YtakgeblhdckccaaDoorGNJ
import Derived.Test.YtakgeblhdckccaaDoorGH0J
import Derived.Test.YtakgeblhdckccaaDoorQj1
namespace Go.Proofs.YtakgeblhdckccaaDoor.P
open Go.RowKit Go.Proofs.YtakgeblhdckccaaDoorW.PrintWords Go.Proofs.YtakgeblhdckccaaDoorW.PrintLast Go.Proofs.YtakgeblhdckccaaDoorW.PrintMore Go.Proofs.YtakgeblhdckccaaDoor.Q
set_option linter.unusedVariables false

/-! ### the rounds -/
/-- What is reached from v in i rounds. -/
def ball (R : Nat → Nat) (v : Nat) : Nat → Nat
  | 0 => 2 ^ v
  | i + 1 => near R (ball R v i)
section
variable {n : Nat} {R : Nat → Nat} {v : Nat}
theorem ball_lt (hV : V n R) (hv : v < n) : ∀ i, ball R v i < 2 ^ n
  | 0 => bit_lt hv
  | i + 1 => near_lt hV (ball_lt hV hv i)
theorem ball_self : ∀ i, (ball R v i).testBit v = true
  | 0 => bit_self v
  | i + 1 => near_self R (ball_self i)
theorem ball_up (i j : Nat) (h : (ball R v i).testBit j = true) : (ball R v (i + 1)).testBit j = true := near_self R h
theorem ball_mono {i i' j : Nat} (hi : i ≤ i') (h : (ball R v i).testBit j = true) : (ball R v i').testBit j = true := by
  induction hi with
  | refl => exact h
  | step _ ih => exact ball_up _ _ ih
theorem ball_stays {m : Nat} (h : ball R v (m + 1) = ball R v m) (d : Nat) : ball R v (m + d) = ball R v m := by
  induction d with
  | zero => rfl
  | succ d ih =>
    rw [show m + (d + 1) = m + d + 1 by omega, ball, ih]
    exact h
theorem cnt_at_most {S : Nat} (hS : S < 2 ^ n) : cnt S ≤ n := by
  have go : ∀ m, ((List.range m).filter S.testBit).length ≤ n := by
    intro m
    by_cases hm : m ≤ n
    · have := bl_upto_len S m
      omega
    · obtain ⟨d, rfl⟩ : ∃ d, m = n + d := ⟨m - n, by omega⟩
      clear hm
      induction d with
      | zero => exact bl_upto_len S n
      | succ d ih =>
        rw [show n + (d + 1) = n + d + 1 by omega, range_filter_succ, lt_iff_bits.1 hS _ (by omega), if_neg (by decide), List.append_nil]
        exact ih
  exact go 8
theorem ball_ends (hV : V n R) (hv : v < n) : ∃ m, m < n ∧ ball R v (m + 1) = ball R v m ∧ ∀ i, i < m → ball R v (i + 1) ≠ ball R v i := by
  have hn := hV.le
  have go : ∀ d, (∃ m, m < d ∧ ball R v (m + 1) = ball R v m ∧ ∀ i, i < m → ball R v (i + 1) ≠ ball R v i) ∨ ((∀ i, i < d → ball R v (i + 1) ≠ ball R v i) ∧ d + 1 ≤ cnt (ball R v d)) := by
    intro d
    induction d with
    | zero => exact .inr ⟨fun i hi => by omega, List.length_pos_of_mem (mem_bl (show v < 8 by omega) (ball_self 0))⟩
    | succ d ih =>
      rcases ih with ⟨m, h1, h2, h3⟩ | ⟨h1, h2⟩
      · exact .inl ⟨m, by omega, h2, h3⟩
      · by_cases h : ball R v (d + 1) = ball R v d
        · exact .inl ⟨d, by omega, h, h1⟩
        · refine .inr ⟨fun i hi => ?_, ?_⟩
          · by_cases e : i = d
            · subst e; exact h
            · exact h1 i (by omega)
          · have := cnt_lt (A := ball R v d) (B := ball R v (d + 1)) (lt8 hn (ball_lt hV hv _)) (fun i hi => ball_up d i hi) (fun e => h e.symm)
            omega
  rcases go n with ⟨m, h1, h2, h3⟩ | ⟨_, h⟩
  · exact ⟨m, h1, h2, h3⟩
  · have := cnt_at_most (ball_lt hV hv n)
    omega
end
/-! ### the first round in which something holds -/
def fst_ (p : Nat → Bool) : Nat → Int
  | 0 => -1
  | k + 1 => if fst_ p k < 0 then (if p k = true then (k : Int) else -1) else fst_ p k
theorem fst_none {p : Nat → Bool} {k : Nat} (h : ∀ j, j < k → p j = false) : fst_ p k = -1 := by
  induction k with
  | zero => rfl
  | succ k ih =>
    rw [fst_, ih (fun j hj => h j (by omega)), if_pos (by decide), h k (by omega), if_neg (by decide)]
theorem fst_found {p : Nat → Bool} {r : Nat} (h : ∀ j, j < r → p j = false) (hr : p r = true) (d : Nat) : fst_ p (r + 1 + d) = r := by
  induction d with
  | zero => rw [Nat.add_zero, fst_, fst_none h, if_pos (by decide), if_pos hr]
  | succ d ih => rw [show r + 1 + (d + 1) = r + 1 + d + 1 by omega, fst_, ih, if_neg (by omega)]
theorem fst_cases (p : Nat → Bool) (k : Nat) : (fst_ p k = -1 ∧ ∀ j, j < k → p j = false) ∨ ∃ r, r < k ∧ fst_ p k = (r : Int) ∧ p r = true ∧ ∀ j, j < r → p j = false := by
  induction k with
  | zero => exact .inl ⟨rfl, fun j hj => by omega⟩
  | succ k ih =>
    rcases ih with ⟨h1, h2⟩ | ⟨r, h1, h2, h3, h4⟩
    · by_cases hp : p k = true
      · exact .inr ⟨k, by omega, by rw [fst_, h1, if_pos (by decide), if_pos hp], hp, h2⟩
      · refine .inl ⟨by rw [fst_, h1, if_pos (by decide), if_neg hp], fun j hj => ?_⟩
        by_cases e : j = k
        · subst e; simpa using hp
        · exact h2 j (by omega)
    · exact .inr ⟨r, by omega, by rw [fst_, h2, if_neg (by omega)], h3, h4⟩
theorem fst_bound (p : Nat → Bool) (k : Nat) : -1 ≤ fst_ p k ∧ fst_ p k < (k : Int) + 1 := by
  rcases fst_cases p k with ⟨h, _⟩ | ⟨r, h, h', _⟩ <;> omega
/-! ### the distances of a graph -/
def hit (R : Nat → Nat) (v u : Nat) (r : Nat) : Bool := (ball R v r).testBit u
def dist (R : Nat → Nat) (v n : Nat) (m : Nat) : List Int := (List.range n).map fun u => fst_ (hit R v u) m
def dmid (R : Nat → Nat) (v n : Nat) (m i : Nat) : List Int := (List.range n).map fun u => fst_ (hit R v u) (if u < i then m + 1 else m)
section
variable {n : Nat} {R : Nat → Nat} {v : Nat}
theorem dmid_zero (m : Nat) : dmid R v n m 0 = dist R v n m := by simp [dmid, dist]
theorem dmid_all (m : Nat) : dmid R v n m n = dist R v n (m + 1) := by
  unfold dmid dist
  apply List.map_congr_left
  intro u hu
  rw [List.mem_range] at hu
  rw [if_pos hu]
theorem dmid_len (m i : Nat) : (dmid R v n m i).length = n := by simp [dmid]
theorem dmid_at {m i : Nat} (hi : i < n) : rd (dmid R v n m i) (i : Int) = fst_ (hit R v i) m := by
  rw [rd_nat]
  simp [dmid, List.getD_eq_getElem?_getD, hi]
theorem dmid_set {m i : Nat} (hi : i < n) : (dmid R v n m i).set i (fst_ (hit R v i) (m + 1)) = dmid R v n m (i + 1) := by
  apply List.ext_getElem
  · simp [dmid]
  · intro j h1 h2
    rw [List.getElem_set]
    by_cases e : i = j
    · subst e
      simp [dmid]
    · rw [if_neg e]
      simp only [dmid, List.getElem_map, List.getElem_range]
      by_cases hj : j < i
      · rw [if_pos hj, if_pos (by omega)]
      · rw [if_neg hj, if_neg (by omega)]
theorem dmid_same {m i : Nat} (hi : i < n) (h : fst_ (hit R v i) (m + 1) = fst_ (hit R v i) m) : dmid R v n m i = dmid R v n m (i + 1) := by
  rw [← dmid_set hi, h]
  apply List.ext_getElem
  · simp
  · intro j h1 h2
    rw [List.getElem_set]
    by_cases e : i = j
    · subst e
      simp [dmid]
    · rw [if_neg e]
theorem dist_stays {m : Nat} (hm : ball R v (m + 1) = ball R v m) (h : m + 1 ≤ n) : dist R v n (m + 1) = dist R v n n := by
  unfold dist
  apply List.map_congr_left
  intro u _
  obtain ⟨d, rfl⟩ : ∃ d, n = m + 1 + d := ⟨n - (m + 1), by omega⟩
  clear h
  have e : ∀ d, fst_ (hit R v u) (m + 1 + d) = fst_ (hit R v u) (m + 1) := by
    intro d
    rcases fst_cases (hit R v u) (m + 1) with ⟨h1, h2⟩ | ⟨r, h1, h2, h3, h4⟩
    · rw [h1]
      refine fst_none fun j hj => ?_
      by_cases hj' : j < m + 1
      · exact h2 j hj'
      · have := h2 m (by omega)
        obtain ⟨x, rfl⟩ : ∃ x, j = m + x := ⟨j - m, by omega⟩
        unfold hit at this ⊢
        rw [ball_stays hm]; exact this
    · rw [h2, show m + 1 + d = r + 1 + (m + d - r) by omega]
      exact fst_found h4 h3 _
  exact (e d).symm
/-! ### the program's -/
theorem distances_round (hV : V n R) (hv : v < n) {m : Nat} (hm : m < n) {r : List Int} (hr : (Ev (fun k => (impl_Graph_around.f k (n : Int) (rows n R) ((ball R v m : Nat) : Int)).bind fun t => if t = ((ball R v m : Nat) : Int) then (some (dist R v n (m + 1))) else impl_Graph_distances.l0 k (dist R v n (m + 1)) t (wrap64 ((m : Int) + 1)) (n : Int) (rows n R)) r)) :
    Ev (fun k => impl_Graph_distances.l0 k (dist R v n m) ((ball R v m : Nat) : Int) (m : Int) (n : Int) (rows n R)) r := by
  have hn := hV.le
  have hL : Ev (fun k => impl_Graph_distances.l1 k (dmid R v n m 0) ((ball R v m : Nat) : Int) (m : Int) (n : Int) ((0 : Nat) : Int) (n : Int) (rows n R)) r := by
    refine up_ev' (σ := List Int) (fun k i x => impl_Graph_distances.l1 k x ((ball R v m : Nat) : Int) (m : Int) (n : Int) (i : Int) (n : Int) (rows n R)) n (fun i x => x = dmid R v n m i) _ ?_ ?_ 0 _ (Nat.zero_le _) rfl
    · intro i x hi hx ih
      subst hx
      refine Ev.late_step 0 (fun k _ => ?_) (ih (dmid R v n m (i + 1)) rfl)
      simp only [impl_Graph_distances.l1]
      rw [if_pos (by omega), if_pos (by omega), if_pos (by rw [dmid_len]; omega), dmid_at hi, wrap_succ (by omega)]
      by_cases h0 : fst_ (hit R v i) m < 0
      · rw [if_pos h0, impl_has_f (lt62 hn (ball_lt hV hv m)) (by omega), Option.bind_some]
        by_cases hb : (ball R v m).testBit i = true
        · have e : fst_ (hit R v i) (m + 1) = (m : Int) := by rw [fst_, if_pos h0, if_pos (show hit R v i m = true from hb)]
          rw [if_pos hb, Int.toNat_natCast, ← dmid_set hi, e]
        · have e : fst_ (hit R v i) (m + 1) = fst_ (hit R v i) m := by
            rw [fst_, if_pos h0, if_neg (show ¬ hit R v i m = true from hb)]
            have := fst_bound (hit R v i) m
            omega
          rw [if_neg hb, dmid_same hi e]
      · have e : fst_ (hit R v i) (m + 1) = fst_ (hit R v i) m := by rw [fst_, if_neg h0]
        rw [if_neg h0, dmid_same hi e]
    · intro x hx
      subst hx
      refine Ev.late_step 0 (fun k _ => ?_) hr
      simp only [impl_Graph_distances.l1]
      rw [if_neg (by omega), dmid_all]
  refine Ev.late_step 0 (fun k _ => ?_) hL
  simp only [impl_Graph_distances.l0]
  rw [dmid_zero, show ((dist R v n m).length : Int) = (n : Int) by simp [dist]]
  rfl
theorem distances_impl (hV : V n R) (hv : v < n) : Ev (fun k => impl_Graph_distances.f k (n : Int) (rows n R) (v : Int)) (dist R v n n) := by
  have hn := hV.le
  have hp := hV.pos
  obtain ⟨M, hM, hMe, hMmin⟩ := ball_ends hV hv
  have hL : Ev (fun k => impl_Graph_distances.l0 k (dist R v n 0) ((ball R v 0 : Nat) : Int) ((0 : Nat) : Int) (n : Int) (rows n R)) (dist R v n n) := by
    refine upto_ev (fun k m => impl_Graph_distances.l0 k (dist R v n m) ((ball R v m : Nat) : Int) (m : Int) (n : Int) (rows n R)) M (fun _ => True) _ ?_ ?_ 0 (Nat.zero_le _) trivial
    · intro m hm _ ih
      refine distances_round hV hv (by omega) ?_
      obtain ⟨K, h⟩ := around_ev hV (n : Int) (ball_lt hV hv m)
      refine Ev.late_eq K (fun k hk => ?_) (ih trivial)
      have e := h k hk
      simp only at e
      rw [e, Option.bind_some, wrap_succ (by omega)]
      change (if ((ball R v (m + 1) : Nat) : Int) = _ then _ else _) = _
      rw [if_neg (fun hc => hMmin m hm (by exact_mod_cast hc))]
      rfl
    · intro _
      refine distances_round hV hv (by omega) ?_
      obtain ⟨K, h⟩ := around_ev hV (n : Int) (ball_lt hV hv M)
      refine ⟨K, fun k hk => ?_⟩
      have e := h k hk
      simp only at e ⊢
      rw [e, Option.bind_some]
      change (if ((ball R v (M + 1) : Nat) : Int) = _ then _ else _) = _
      rw [if_pos (by rw [hMe]), dist_stays hMe (by omega)]
  refine Ev.late_eq 0 (fun k _ => ?_) hL
  unfold impl_Graph_distances.f slices_Repeat_int_int.f
  rw [if_pos ⟨rfl, by omega, by omega⟩, Option.bind_some, impl_bit_f (by omega), Option.bind_some]
  have e : List.replicate (n : Int).toNat (([(-1)] : List Int).getD 0 0) = dist R v n 0 := by
    apply List.ext_getElem
    · simp [dist]
    · intro i h1 h2
      simp [dist, fst_]
  rw [e]
  rfl
end
end Go.Proofs.YtakgeblhdckccaaDoor.P
