/- The laws of the distances: the same both ways, the triangle, connected graphs and their parts. -/
import Derived.Test.YtakgeblhdckccaaDoorGD1J
import Derived.Test.YtakgeblhdckccaaDoorG6PJ
import Derived.Test.YtakgeblhdckccaaDoorG30J
import Derived.Test.YtakgeblhdckccaaDoorQj0
import Derived.Test.YtakgeblhdckccaaDoorQj1
import Derived.Test.YtakgeblhdckccaaDoorQj2
namespace Go.Proofs.YtakgeblhdckccaaDoor.P
open Go.RowKit Go.Proofs.YtakgeblhdckccaaDoorW.PrintWords Go.Proofs.YtakgeblhdckccaaDoorW.PrintLast Go.Proofs.YtakgeblhdckccaaDoorW.PrintMore Go.Proofs.YtakgeblhdckccaaDoor.Q
set_option linter.unusedVariables false
/-- The number that a law reads off the code. -/
theorem makeNum_ev {b : List Int} (hb : b.length ≤ 1048576) (a : Nat) (ha : a ≤ 1000) : ∃ m : Nat, Ev (fun k => spec_MakeNum.f k b (a : Int)) (m : Int) := by
  obtain ⟨i, h, hi, K, e⟩ := new15_ev hb a ha
  obtain ⟨x, i1, h1, e1, hx, hi1⟩ := byte_f hb hi h
  obtain ⟨y, i2, h2, e2, hy, hi2⟩ := byte_f hb hi1 h1
  refine ⟨(x * 256 + y).toNat, K, fun k hk => ?_⟩
  have e := e k hk
  simp only at e ⊢
  unfold spec_MakeNum.f
  rw [e, Option.bind_some]
  simp only
  rw [e1, Option.bind_some]
  simp only
  rw [e2, Option.bind_some]
  simp only
  rw [wrap_small (n := x * 256) (by omega) (by omega), wrap_small (by omega) (by omega)]
  congr 1
  omega
theorem near_cases {R : Nat → Nat} {S i : Nat} (h : (near R S).testBit i = true) : S.testBit i = true ∨ ∃ j, S.testBit j = true ∧ (R j).testBit i = true := by
  rw [near_bit, Bool.or_eq_true, List.any_eq_true] at h
  rcases h with h | ⟨j, _, hj⟩
  · exact .inl h
  · rw [Bool.and_eq_true] at hj
    exact .inr ⟨j, hj⟩
theorem near_of {R : Nat → Nat} {S i j : Nat} (hj : j < 8) (h : S.testBit j = true) (h' : (R j).testBit i = true) : (near R S).testBit i = true := by
  rw [near_bit, Bool.or_eq_true, List.any_eq_true]
  exact .inr ⟨j, by simpa using hj, by rw [h, h']; rfl⟩
theorem lt_of_bit {n S i : Nat} (hS : S < 2 ^ n) (h : S.testBit i = true) : i < n := by
  apply Classical.byContradiction
  intro hc
  rw [lt_iff_bits.1 hS i (by omega)] at h
  cases h
theorem ball_trans {R : Nat → Nat} {a b c i j : Nat} (h : (ball R a i).testBit b = true) (h' : (ball R b j).testBit c = true) : (ball R a (i + j)).testBit c = true := by
  induction j generalizing c with
  | zero =>
    rw [ball, bit_eq] at h'
    have : b = c := of_decide_eq_true h'
    subst this
    exact h
  | succ j ih =>
    rw [← Nat.add_assoc, ball]
    rw [ball] at h'
    exact near_mono R (A := ball R b j) (fun x hx => ih hx) h'
section
variable {n : Nat} {R : Nat → Nat}
theorem ball_sym (hV : V n R) {a c : Nat} (ha : a < n) (hc : c < n) {i : Nat} (h : (ball R a i).testBit c = true) : (ball R c i).testBit a = true := by
  have hn := hV.le
  induction i generalizing c with
  | zero =>
    rw [ball, bit_eq] at h ⊢
    exact decide_eq_true (of_decide_eq_true h).symm
  | succ i ih =>
    rw [ball] at h
    rcases near_cases h with h | ⟨j, h1, h2⟩
    · exact ball_up i a (ih hc h)
    · have hj := lt_of_bit (ball_lt hV ha i) h1
      have h3 : (R c).testBit j = true := by rw [hV.sym c j hc hj]; exact h2
      have h4 : (ball R c 1).testBit j = true := near_of (by omega) (ball_self 0) h3
      have := ball_trans h4 (ih hj h1)
      rwa [Nat.add_comm] at this
theorem hit_sym (hV : V n R) {a c : Nat} (ha : a < n) (hc : c < n) : hit R a c = hit R c a := by
  funext r
  unfold hit
  rw [Bool.eq_iff_iff]
  exact ⟨ball_sym hV ha hc, ball_sym hV hc ha⟩
theorem dd_reach (hV : V n R) {a u r : Nat} (ha : a < n) (h : (ball R a r).testBit u = true) : 0 ≤ fst_ (hit R a u) n ∧ fst_ (hit R a u) n ≤ (r : Int) := by
  obtain ⟨M, hM, hMe, _⟩ := ball_ends hV ha
  rcases fst_cases (hit R a u) n with ⟨h1, h2⟩ | ⟨q, h1, h2, h3, h4⟩
  · exfalso
    by_cases hr : r < n
    · have := h2 r hr
      unfold hit at this
      rw [h] at this
      cases this
    · have := h2 M hM
      unfold hit at this
      rw [show r = M + (r - M) by omega, ball_stays hMe, this] at h
      cases h
  · have : q ≤ r := by
      apply Classical.byContradiction
      intro hc
      have := h4 r (by omega)
      unfold hit at this
      rw [h] at this
      cases this
    omega
theorem dd_hit {a u : Nat} (h : 0 ≤ fst_ (hit R a u) n) : ∃ r : Nat, r < n ∧ fst_ (hit R a u) n = (r : Int) ∧ (ball R a r).testBit u = true ∧ ∀ j, j < r → (ball R a j).testBit u = false := by
  rcases fst_cases (hit R a u) n with ⟨h1, _⟩ | ⟨q, hq, h2, h3, h4⟩
  · omega
  · exact ⟨q, hq, h2, h3, h4⟩
theorem dd_zero (hV : V n R) {a u : Nat} (ha : a < n) : fst_ (hit R a u) n = 0 ↔ a = u := by
  constructor
  · intro h
    obtain ⟨r, _, h1, h2, _⟩ := dd_hit (n := n) (R := R) (a := a) (u := u) (by omega)
    obtain rfl : r = 0 := by omega
    rw [ball, bit_eq] at h2
    exact of_decide_eq_true h2
  · rintro rfl
    have := dd_reach hV ha (ball_self (R := R) (v := a) 0)
    omega
theorem dd_one (hV : V n R) {a u : Nat} (ha : a < n) (hu : u < n) : fst_ (hit R a u) n = 1 ↔ (R a).testBit u = true := by
  have hn := hV.le
  constructor
  · intro h
    obtain ⟨r, _, h1, h2, h3⟩ := dd_hit (n := n) (R := R) (a := a) (u := u) (by omega)
    obtain rfl : r = 1 := by omega
    rcases near_cases (show (near R (ball R a 0)).testBit u = true from h2) with h | ⟨j, hj, hj'⟩
    · rw [h3 0 (by omega)] at h
      cases h
    · rw [ball, bit_eq] at hj
      have := of_decide_eq_true hj
      subst this
      exact hj'
  · intro h
    have h1 : (ball R a 1).testBit u = true := near_of (show a < 8 by omega) (ball_self 0) h
    have h2 := dd_reach hV ha h1
    have h0 : ¬ fst_ (hit R a u) n = 0 := by
      rw [dd_zero hV ha]
      rintro rfl
      rw [hV.irr a ha] at h
      cases h
    omega
theorem dd_triangle (hV : V n R) {a b c : Nat} (ha : a < n) (h1 : 0 ≤ fst_ (hit R a b) n) (h2 : 0 ≤ fst_ (hit R b c) n) : 0 ≤ fst_ (hit R a c) n ∧ fst_ (hit R a c) n ≤ fst_ (hit R a b) n + fst_ (hit R b c) n := by
  obtain ⟨r, _, e1, h3, _⟩ := dd_hit h1
  obtain ⟨q, _, e2, h4, _⟩ := dd_hit h2
  have := dd_reach hV ha (ball_trans h3 h4)
  omega
/-- Is all in reach of v? -/
def cn (R : Nat → Nat) (n v : Nat) : Bool := (List.range n).all fun u => decide (0 ≤ fst_ (hit R v u) n)
theorem cn_iff {v : Nat} : cn R n v = true ↔ ∀ u, u < n → 0 ≤ fst_ (hit R v u) n := by simp [cn, List.all_eq_true]
theorem cn_from (hV : V n R) {a b : Nat} (ha : a < n) (hb : b < n) (h : cn R n a = true) : cn R n b = true := by
  rw [cn_iff] at h ⊢
  intro u hu
  obtain ⟨r1, _, _, h1, _⟩ := dd_hit (h b hb)
  obtain ⟨r2, _, _, h2, _⟩ := dd_hit (h u hu)
  exact (dd_reach hV hb (ball_trans (ball_sym hV ha hb h1) h2)).1
theorem cn_same (hV : V n R) {a b : Nat} (ha : a < n) (hb : b < n) : cn R n a = cn R n b := by
  rw [Bool.eq_iff_iff]
  exact ⟨cn_from hV ha hb, cn_from hV hb ha⟩
theorem grow_ball (hV : V n R) {v : Nat} (hv : v < n) (i : Nat) : grow R (2 ^ n - 1) v i = ball R v i := by
  induction i with
  | zero => rfl
  | succ i ih =>
    rw [grow, ih, ball]
    apply set_ext
    intro j
    rw [Nat.testBit_and, all_bit]
    by_cases h : j < n
    · rw [decide_eq_true h, Bool.and_true]
    · rw [lt_iff_bits.1 (near_lt hV (ball_lt hV hv i)) j (by omega), Bool.false_and]
theorem part_full (hV : V n R) {v : Nat} (hv : v < n) : part n R (2 ^ n - 1) v = 2 ^ n - 1 ↔ cn R n v = true := by
  unfold part
  rw [grow_ball hV hv, cn_iff]
  constructor
  · intro h u hu
    exact (dd_reach hV hv (r := n) (by rw [h, all_bit]; exact decide_eq_true hu)).1
  · intro h
    apply set_ext
    intro i
    rw [all_bit]
    by_cases hi : i < n
    · obtain ⟨r, hr, _, h1, _⟩ := dd_hit (h i hi)
      rw [decide_eq_true hi, ball_mono (by omega) h1]
    · rw [decide_eq_false hi, lt_iff_bits.1 (ball_lt hV hv n) i (by omega)]
/-! ### the program's answers on a valid graph -/
theorem hold_true (hV : V n R) {m : List Int} (hm : m.all (vx (n : Int)) = true) (hl : m.length ≤ 4000000) : Ev (fun k => impl_Graph_hold.f k (n : Int) (rows n R) m) true := by
  have h := hold_ev (n : Int) (rows n R) m hl
  rwa [gB_rows hV, hm] at h
theorem vx_nat {v : Nat} (hv : v < n) : vx (n : Int) (v : Int) = true := by unfold vx; exact decide_eq_true (by omega)
theorem dist_at {a u : Nat} (hu : u < n) : rd (dist R a n n) (u : Int) = fst_ (hit R a u) n := by
  rw [rd_nat]
  simp [dist, List.getD_eq_getElem?_getD, hu]
theorem dist_len {a m : Nat} : (dist R a n m).length = n := by simp [dist]
theorem distOf_ev (hV : V n R) {a u : Nat} (ha : a < n) (hu : u < n) : Ev (fun k => impl_DistanceOf.f k (n : Int) (rows n R) (a : Int) (u : Int)) (fst_ (hit R a u) n) := by
  obtain ⟨K, h⟩ := hold_true hV (m := [(a : Int), (u : Int)]) (by simp [vx_nat ha, vx_nat hu]) (by simp)
  obtain ⟨K1, h1⟩ := distances_impl hV ha
  refine ⟨K + K1, fun k hk => ?_⟩
  have e := h k (by omega)
  have e1 := h1 k (by omega)
  simp only at e e1 ⊢
  unfold impl_DistanceOf.f
  rw [e, Option.bind_some, if_pos rfl, e1, Option.bind_some, if_pos (by omega), if_pos (by rw [dist_len]; omega), dist_at hu]
theorem hasEdge_ev (hV : V n R) {a u : Nat} (ha : a < n) (hu : u < n) : Ev (fun k => impl_HasEdge.f k (n : Int) (rows n R) (a : Int) (u : Int)) ((R a).testBit u) := by
  have hn := hV.le
  obtain ⟨K, h⟩ := hold_true hV (m := [(a : Int), (u : Int)]) (by simp [vx_nat ha, vx_nat hu]) (by simp)
  refine ⟨K, fun k hk => ?_⟩
  have e := h k (by omega)
  simp only at e ⊢
  unfold impl_HasEdge.f
  rw [e, Option.bind_some, if_pos rfl, if_pos (by omega), if_pos (by rw [rows_len]; omega), rd_rows hV, impl_has_f (lt62 hn (hV.lt' a)) (by omega), Option.bind_some]
theorem fire_ev (hV : V n R) {a : Nat} (ha : a < n) : Ev (fun k => impl_FireDistances.f k (n : Int) (rows n R) (a : Int)) (dist R a n n) := by
  obtain ⟨K, h⟩ := hold_true hV (m := [(a : Int)]) (by simp [vx_nat ha]) (by simp)
  obtain ⟨K1, h1⟩ := distances_impl hV ha
  refine ⟨K + K1, fun k hk => ?_⟩
  have e := h k (by omega)
  have e1 := h1 k (by omega)
  simp only at e e1 ⊢
  unfold impl_FireDistances.f
  rw [e, Option.bind_some, if_pos rfl, e1, Option.bind_some]
theorem at_f {l : List Int} {u : Nat} (hu : u < l.length) : laws_at.f l (u : Int) = some (rd l (u : Int)) := by
  unfold laws_at.f
  rw [if_neg (by omega), if_neg (by omega), if_pos (by omega), if_pos (by omega)]
theorem index_ev (l : List Int) (hl : l.length ≤ 1000) (x : Int) : ∀ d i, l.length = i + d → ∃ r, Ev (fun k => slices_Index_int_int.l0 k l x (l.length : Int) (i : Int)) r ∧ (0 ≤ r ↔ ∃ j, i ≤ j ∧ j < l.length ∧ rd l (j : Int) = x) := by
  intro d
  induction d with
  | zero =>
    intro i hi
    refine ⟨-1, Ev.one fun k => ?_, ⟨fun h => by omega, fun ⟨j, h1, h2, _⟩ => by omega⟩⟩
    simp only [slices_Index_int_int.l0]
    rw [if_neg (by omega)]
  | succ d ih =>
    intro i hi
    by_cases hx : x = rd l (i : Int)
    · refine ⟨(i : Int), Ev.one fun k => ?_, ⟨fun _ => ⟨i, Nat.le_refl _, by omega, hx.symm⟩, fun _ => by omega⟩⟩
      simp only [slices_Index_int_int.l0]
      rw [if_pos (by omega), if_pos (by omega), if_pos (by omega), if_pos hx]
    · obtain ⟨r, hr, h⟩ := ih (i + 1) (by omega)
      refine ⟨r, Ev.late_step 0 (fun k _ => ?_) hr, h.trans ⟨fun ⟨j, h1, h2, h3⟩ => ⟨j, by omega, h2, h3⟩, fun ⟨j, h1, h2, h3⟩ => ⟨j, ?_, h2, h3⟩⟩⟩
      · simp only [slices_Index_int_int.l0]
        rw [if_pos (by omega), if_pos (by omega), if_pos (by omega), if_neg hx, wrap_succ (by omega)]
      · by_cases e : j = i
        · subst e; exact absurd h3.symm hx
        · omega
theorem isConnected_ev (hV : V n R) : Ev (fun k => impl_IsConnected.f k (n : Int) (rows n R)) (cn R n 0) := by
  have hn := hV.le
  have hp := hV.pos
  obtain ⟨K, h⟩ := impl_GraphOk_ev (n : Int) (rows n R)
  obtain ⟨K1, h1⟩ := distances_impl hV (v := 0) (by omega)
  obtain ⟨r, ⟨K2, h2⟩, hr⟩ := index_ev (dist R 0 n n) (by rw [dist_len]; omega) (-1) n 0 (by rw [dist_len]; omega)
  refine ⟨K + K1 + K2, fun k hk => ?_⟩
  have e := h k (by omega)
  have e1 := h1 k (by omega)
  have e2 := h2 k (by omega)
  simp only at e e1 e2 ⊢
  unfold impl_IsConnected.f slices_Contains_int_int.f slices_Index_int_int.f
  rw [e, gB_rows hV, Option.bind_some, if_pos rfl]
  rw [show ((0 : Nat) : Int) = 0 from rfl] at e1 e2
  rw [e1, Option.bind_some, e2, Option.bind_some, Option.bind_some]
  congr 1
  by_cases hc : cn R n 0 = true
  · rw [hc]
    have : ¬ (0 ≤ r) := by
      rw [hr]
      rintro ⟨j, _, hj, hj2⟩
      rw [dist_len] at hj
      rw [dist_at hj] at hj2
      have := cn_iff.1 hc j hj
      omega
    rw [decide_eq_false (by omega)]
    rfl
  · have hc' : cn R n 0 = false := by simpa using hc
    rw [hc']
    have : 0 ≤ r := by
      rw [hr]
      apply Classical.byContradiction
      intro hno
      apply hc
      rw [cn_iff]
      intro u hu
      have hb := fst_bound (hit R 0 u) n
      by_cases h0 : fst_ (hit R 0 u) n = -1
      · exact absurd ⟨u, Nat.zero_le _, by rw [dist_len]; exact hu, by rw [dist_at hu]; exact h0⟩ hno
      · omega
    rw [decide_eq_true (by omega)]
    rfl
/-! ### the parts of a set -/
def lowb (S : Nat) : Nat := (bl S).getD 0 0
theorem tz_lowb_all : ∀ S, S < 256 → 0 < S → tzOf ((S : Nat) : Int) = ((lowb S : Nat) : Int) ∧ S.testBit (lowb S) = true := by decide +kernel
theorem leastb_f {S : Nat} (hS : S < 256) (h0 : 0 < S) : impl_least.f (S : Int) = some ((lowb S : Nat) : Int) := by
  have hw : IntKind.u64.wrap ((S : Nat) : Int) = (S : Int) := by
    rw [show IntKind.u64.wrap ((S : Nat) : Int) = ((S : Nat) : Int) % 18446744073709551616 from rfl]
    omega
  unfold impl_least.f bits_TrailingZeros.f bits_TrailingZeros64.f
  rw [hw, if_pos (by omega), Option.bind_some, Option.bind_some, (tz_lowb_all S hS h0).1]
theorem subb_all : ∀ S, S < 256 → ∀ P, P < 256 → P &&& S = P → P ≤ S ∧ S - P = sd S P := by decide +kernel
theorem parts_ev (hV : V n R) : ∀ d S, S ≤ d → S < 2 ^ n → ∀ acc : List Int, acc.length + S < 1000 → ∃ L : List Int, Ev (fun k => impl_PartsOf.l0 k (S : Int) acc (n : Int) (rows n R)) (acc ++ L) ∧ (L = [] ↔ S = 0) ∧ (L.length = 1 ↔ (0 < S ∧ part n R S (lowb S) = S)) := by
  have hn := hV.le
  intro d
  induction d with
  | zero =>
    intro S hd hS acc ha
    obtain rfl : S = 0 := by omega
    refine ⟨[], Ev.one fun k => ?_, by simp, by simp⟩
    simp only [impl_PartsOf.l0]
    rw [if_pos (by omega), List.append_nil]
  | succ d ih =>
    intro S hd hS acc ha
    by_cases h0 : 0 < S
    · obtain ⟨_, hb⟩ := tz_lowb_all S (lt_256 hn hS) h0
      have hv := lt_of_bit hS hb
      obtain ⟨hP1, hP2⟩ := grow_bits (R := R) hb n
      have hPS : part n R S (lowb S) &&& S = part n R S (lowb S) := by
        apply set_ext
        intro i
        rw [Nat.testBit_and]
        cases hp : (part n R S (lowb S)).testBit i with
        | true => rw [hP2 i hp]; rfl
        | false => rfl
      have hPle : part n R S (lowb S) ≤ S := by rw [← hPS]; exact Nat.and_le_right
      obtain ⟨hle, hsub⟩ := subb_all S (lt_256 hn hS) (part n R S (lowb S)) (by have := lt_256 hn hS; omega) hPS
      have hPpos : 0 < part n R S (lowb S) := by
        rcases Nat.eq_zero_or_pos (part n R S (lowb S)) with h | h
        · change (part n R S (lowb S)).testBit (lowb S) = true at hP1
          rw [h] at hP1; simp at hP1
        · exact h
      have hPn : part n R S (lowb S) < 2 ^ n := by omega
      obtain ⟨L, hL, h1, h2⟩ := ih (sd S (part n R S (lowb S))) (by omega) (by omega) (acc ++ [((part n R S (lowb S) : Nat) : Int)]) (by rw [List.length_append, List.length_singleton]; omega)
      refine ⟨((part n R S (lowb S) : Nat) : Int) :: L, ?_, by simp; omega, ?_⟩
      · obtain ⟨K, h⟩ := part_ev hV (n : Int) hS hv hb
        rw [show acc ++ ((part n R S (lowb S) : Nat) : Int) :: L = acc ++ [((part n R S (lowb S) : Nat) : Int)] ++ L by simp]
        refine Ev.late_step K (fun k hk => ?_) hL
        have e := h k (by omega)
        simp only at e
        simp only [impl_PartsOf.l0]
        rw [if_neg (by omega), leastb_f (lt_256 hn hS) h0, Option.bind_some, e, Option.bind_some, if_pos (by omega), andNot_nat (lt62 hn hS) (lt62 hn hPn)]
      · rw [List.length_cons]
        constructor
        · intro h
          have : L = [] := List.length_eq_zero_iff.1 (by omega)
          have := h1.1 this
          omega
        · rintro ⟨_, h⟩
          rw [h1.2 (by omega)]
          rfl
    · obtain rfl : S = 0 := by omega
      refine ⟨[], Ev.one fun k => ?_, by simp, by simp⟩
      simp only [impl_PartsOf.l0]
      rw [if_pos (by omega), List.append_nil]
theorem partsOf_full (hV : V n R) : ∃ L : List Int, Ev (fun k => impl_PartsOf.f k (n : Int) (rows n R) ((2 ^ n - 1 : Nat) : Int)) L ∧ (L.length = 1 ↔ cn R n 0 = true) := by
  have hn := hV.le
  have hp := hV.pos
  obtain ⟨h256, hpos⟩ := small_pow hn
  have h2 : 2 ≤ 2 ^ n := Nat.pow_le_pow_right (n := 2) (by decide) hp
  have h0 : 0 < 2 ^ n - 1 := by omega
  obtain ⟨_, hb⟩ := tz_lowb_all (2 ^ n - 1) (by omega) h0
  have hv := lt_of_bit (all_lt n) hb
  obtain ⟨L, ⟨K, h⟩, _, hL⟩ := parts_ev hV (2 ^ n - 1) (2 ^ n - 1) (Nat.le_refl _) (all_lt n) [] (by simp; omega)
  rw [List.nil_append] at h
  obtain ⟨K1, h1⟩ := impl_GraphOk_ev (n : Int) (rows n R)
  refine ⟨L, ⟨K + K1, fun k hk => ?_⟩, ?_⟩
  · have e := h k (by omega)
    have e1 := h1 k (by omega)
    simp only at e e1 ⊢
    unfold impl_PartsOf.f impl_SetOk.f
    rw [e1, gB_rows hV, Option.bind_some, if_pos rfl, impl_all_f (by omega), Option.bind_some, impl_in_f, Option.bind_some, decide_eq_true ⟨Int.natCast_nonneg _, Int.le_refl _⟩, Option.bind_some, if_pos rfl]
    exact e
  · rw [hL, part_full hV hv, cn_same hV hv (show 0 < n by omega)]
    exact ⟨fun h => h.2, fun h => ⟨h0, h⟩⟩
end
end Go.Proofs.YtakgeblhdckccaaDoor.P
