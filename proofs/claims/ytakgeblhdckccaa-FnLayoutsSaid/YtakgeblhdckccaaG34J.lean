/- The bags of an order's paths: they are a decomposition. -/
import Derived.Test.YtakgeblhdckccaaG32J
import Derived.Test.YtakgeblhdckccaaG33J
import Derived.Test.YtakgeblhdckccaaGAJ
import Derived.Test.YtakgeblhdckccaaQj3
namespace Go.Proofs.Ytakgeblhdckccaa.P
open Go.RowKit Go.Proofs.YtakgeblhdckccaaW.PrintWords Go.Proofs.YtakgeblhdckccaaW.PrintLast Go.Proofs.YtakgeblhdckccaaW.PrintMore Go.Proofs.Ytakgeblhdckccaa.Q
set_option linter.unusedVariables false

theorem orr_bit : ∀ (t : List Nat) (S i : Nat), (orr S t).testBit i = (S.testBit i || decide (i ∈ t))
  | [], S, i => by simp [orr]
  | v :: t, S, i => by
    rw [orr, orr_bit t, Nat.testBit_or, bit_eq, Bool.or_assoc]
    congr 1
    rw [Bool.eq_iff_iff, Bool.or_eq_true, decide_eq_true_eq, decide_eq_true_eq, decide_eq_true_eq, List.mem_cons]
    constructor
    · rintro (h | h)
      · exact .inl h.symm
      · exact .inr h
    · rintro (h | h)
      · exact .inl h.symm
      · exact .inr h
section
variable {n : Nat} {R : Nat → Nat} {t : List Nat}
/-- The set of the first i vertices. -/
abbrev pre (t : List Nat) (i : Nat) : Nat := orr 0 (t.take i)
theorem pre_lt (ht : ∀ v ∈ t, v < n) (i : Nat) : pre t i < 2 ^ n := orr_lt _ 0 (Nat.two_pow_pos n) (fun v h => ht v (List.mem_of_mem_take h))
theorem pre_succ {i : Nat} (hi : i < t.length) : pre t (i + 1) = pre t i ||| 2 ^ (t.getD i 0) := by
  unfold pre
  rw [take_snoc t hi, orr_snoc]
theorem pre_bit (i v : Nat) : (pre t i).testBit v = decide (v ∈ t.take i) := by
  unfold pre
  rw [orr_bit, Nat.zero_testBit, Bool.false_or]
theorem take_mem {p i : Nat} (hp : p < t.length) (h : p < i) : t.getD p 0 ∈ t.take i := by
  rw [List.mem_take_iff_getElem]
  exact ⟨p, by omega, by simp [List.getD_eq_getElem?_getD, hp]⟩
theorem pre_at (hf : fresh 0 t = true) {p i : Nat} (hp : p < t.length) (hi : i ≤ t.length) : (pre t i).testBit (t.getD p 0) = decide (p < i) := by
  by_cases h : p < i
  · rw [pre_bit, decide_eq_true h, decide_eq_true (take_mem hp h)]
  · rw [decide_eq_false h]
    have h1 := fresh_at hf hp
    rw [pre_bit]
    apply decide_eq_false
    intro hm
    have h2 : t.getD p 0 ∈ t.take p := by
      rw [List.mem_take_iff_getElem] at hm ⊢
      obtain ⟨q, hq, e⟩ := hm
      exact ⟨q, by omega, e⟩
    have h3 : (pre t p).testBit (t.getD p 0) = true := by rw [pre_bit, decide_eq_true h2]
    rw [show (pre t p).testBit (t.getD p 0) = (orr 0 (t.take p)).testBit (t.getD p 0) from rfl, h1] at h3
    cases h3
/-- The bag at place i. -/
def pb (R : Nat → Nat) (t : List Nat) (i : Nat) : Nat := front R (pre t i) ||| 2 ^ (t.getD i 0)
def pbs (R : Nat → Nat) (t : List Nat) (i : Nat) : List Nat := (List.range i).map (pb R t)
def frs (R : Nat → Nat) (t : List Nat) (i : Nat) : List Nat := (List.range i).map fun i => front R (pre t (i + 1))
theorem pbs_len (i : Nat) : (pbs R t i).length = i := by simp [pbs]
theorem frs_len (i : Nat) : (frs R t i).length = i := by simp [frs]
theorem pbs_at {m i : Nat} (h : i < m) : (pbs R t m).getD i 0 = pb R t i := by simp [pbs, List.getD_eq_getElem?_getD, h]
theorem frs_at {m i : Nat} (h : i < m) : (frs R t m).getD i 0 = front R (pre t (i + 1)) := by simp [frs, List.getD_eq_getElem?_getD, h]
theorem pbs_succ (i : Nat) : pbs R t (i + 1) = pbs R t i ++ [pb R t i] := by unfold pbs; rw [List.range_succ, List.map_append]; rfl
theorem frs_succ (i : Nat) : frs R t (i + 1) = frs R t i ++ [front R (pre t (i + 1))] := by unfold frs; rw [List.range_succ, List.map_append]; rfl
theorem pb_lt (hn : n ≤ 8) (ht : ∀ v ∈ t, v < n) {i : Nat} (hi : i < t.length) : pb R t i < 2 ^ n := or_lt (front_lt hn (pre_lt ht i)) (bit_lt (ht _ (getD_mem hi)))
theorem pb_bit (hn : n ≤ 8) (ht : ∀ v ∈ t, v < n) (i v : Nat) : (pb R t i).testBit v = ((pre t i).testBit v && decide (sd (R v) (pre t i) ≠ 0) || decide (t.getD i 0 = v)) := by
  unfold pb
  rw [Nat.testBit_or, front_bit hn (pre_lt ht i), bit_eq]
/-- Has v a neighbor behind the first i? -/
theorem outside_of {v w : Nat} {S : Nat} (h : (R v).testBit w = true) (hw : S.testBit w = false) : sd (R v) S ≠ 0 := by
  intro e
  have : (sd (R v) S).testBit w = true := by rw [sd_bit, h, hw]; rfl
  rw [e] at this
  simp at this
theorem outside_ex {v : Nat} {S : Nat} (h : sd (R v) S ≠ 0) : ∃ w, (R v).testBit w = true ∧ S.testBit w = false := by
  apply Classical.byContradiction
  intro hc
  apply h
  apply set_ext
  intro w
  rw [sd_bit, Nat.zero_testBit]
  cases h1 : (R v).testBit w with
  | false => rfl
  | true =>
    cases h2 : S.testBit w with
    | true => rfl
    | false => exact absurd ⟨w, h1, h2⟩ hc
theorem pathBags_ev (hV : V n R) (ht : ∀ v ∈ t, v < n) (hl : t.length = n) (hb : layB (n : Int) (rows n R) (ints t) = true)
    (hk : Ev (fun k => impl_LayoutOk.f k (n : Int) (rows n R) (ints t)) true) : Ev (fun k => impl_PathBags.f k (n : Int) (rows n R) (ints t)) (ints (pbs R t n)) := by
  have hn := hV.le
  have hL : Ev (fun k => impl_PathBags.l0 k (ints (pbs R t 0)) ((pre t 0 : Nat) : Int) (ints t) (t.length : Int) ((0 : Nat) : Int) (n : Int) (rows n R)) (ints (pbs R t n)) := by
    refine upto_ev (fun k i => impl_PathBags.l0 k (ints (pbs R t i)) ((pre t i : Nat) : Int) (ints t) (t.length : Int) (i : Int) (n : Int) (rows n R)) t.length (fun _ => True) _ ?_ ?_ 0 (Nat.zero_le _) trivial
    · intro i hi _ ih
      have hv := ht _ (getD_mem hi)
      have hS := pre_lt ht i
      obtain ⟨K, h⟩ := front_ev hV (n : Int) hS
      refine Ev.late_step K (fun k hk => ?_) (ih trivial)
      have e := h k hk
      simp only at e
      simp only [impl_PathBags.l0]
      rw [if_pos (by omega), if_pos (by omega), if_pos (by rw [ints_len]; omega), rd_ints, e, Option.bind_some, impl_bit_f (by omega), Option.bind_some, if_pos (by rw [ints_len, pbs_len]; omega), Option.bind_some, or_nat (lt62 hn (front_lt hn hS)) (lt62 hn (bit_lt hv)), or_nat (lt62 hn hS) (lt62 hn (bit_lt hv)), wrap_succ (by omega), pbs_succ, ints_app, pre_succ hi]
      rfl
    · intro _
      refine Ev.one fun k => ?_
      simp only [impl_PathBags.l0]
      rw [if_neg (by omega), hl]
  obtain ⟨K, h⟩ := hk
  obtain ⟨K2, h2⟩ := hL
  refine ⟨K + K2, fun k hk => ?_⟩
  have e := h k (by omega)
  have e2 := h2 k (by omega)
  simp only at e e2 ⊢
  unfold impl_PathBags.f
  rw [e, Option.bind_some, if_pos rfl, ints_len]
  exact e2
theorem frontsOf_ev (hV : V n R) (ht : ∀ v ∈ t, v < n) (hl : t.length = n)
    (hk : Ev (fun k => impl_LayoutOk.f k (n : Int) (rows n R) (ints t)) true) : Ev (fun k => impl_FrontsOf.f k (n : Int) (rows n R) (ints t)) (ints (frs R t n)) := by
  have hn := hV.le
  have hL : Ev (fun k => impl_FrontsOf.l0 k (ints (frs R t 0)) ((pre t 0 : Nat) : Int) (ints t) (t.length : Int) ((0 : Nat) : Int) (n : Int) (rows n R)) (ints (frs R t n)) := by
    refine upto_ev (fun k i => impl_FrontsOf.l0 k (ints (frs R t i)) ((pre t i : Nat) : Int) (ints t) (t.length : Int) (i : Int) (n : Int) (rows n R)) t.length (fun _ => True) _ ?_ ?_ 0 (Nat.zero_le _) trivial
    · intro i hi _ ih
      have hv := ht _ (getD_mem hi)
      have hS := pre_lt ht i
      obtain ⟨K, h⟩ := front_ev hV (n : Int) (pre_lt ht (i + 1))
      refine Ev.late_step K (fun k hk => ?_) (ih trivial)
      have e := h k hk
      simp only at e
      rw [pre_succ hi] at e
      simp only [impl_FrontsOf.l0]
      rw [if_pos (by omega), if_pos (by omega), if_pos (by rw [ints_len]; omega), rd_ints, impl_bit_f (by omega), Option.bind_some, or_nat (lt62 hn hS) (lt62 hn (bit_lt hv)), e, Option.bind_some, if_pos (by rw [ints_len, frs_len]; omega), wrap_succ (by omega), frs_succ, ints_app, pre_succ hi]
      rfl
    · intro _
      refine Ev.one fun k => ?_
      simp only [impl_FrontsOf.l0]
      rw [if_neg (by omega), hl]
  obtain ⟨K, h⟩ := hk
  obtain ⟨K2, h2⟩ := hL
  refine ⟨K + K2, fun k hk => ?_⟩
  have e := h k (by omega)
  have e2 := h2 k (by omega)
  simp only at e e2 ⊢
  unfold impl_FrontsOf.f
  rw [e, Option.bind_some, if_pos rfl, ints_len]
  exact e2
/-! ### the bags are a decomposition -/
theorem place_of (hf : fresh 0 t = true) (hn : n ≤ 8) (ht : ∀ v ∈ t, v < n) (hl : t.length = n) {v : Nat} (hv : v < n) : ∃ p, p < n ∧ t.getD p 0 = v := by
  have h := (orr_full hn ht hl).2 hf
  have h2 := orr_bit t 0 v
  rw [h, all_bit, decide_eq_true hv, Nat.zero_testBit, Bool.false_or] at h2
  have hm := of_decide_eq_true h2.symm
  obtain ⟨p, hp, e⟩ := List.getElem_of_mem hm
  exact ⟨p, by omega, by rw [← e]; simp [List.getD_eq_getElem?_getD, hp]⟩
theorem bg_ints (bs : List Nat) (i : Nat) : bg (ints bs) i = bs.getD i 0 := by
  unfold bg
  have := rd_ints bs i
  rw [rd_nat] at this
  rw [this, Int.toNat_natCast]
theorem held_has (bs : List Int) {i v w : Nat} (h1 : (bg bs i).testBit v = true) (h2 : (bg bs i).testBit w = true) : ∀ m, i < m → (held bs m v).testBit w = true
  | 0, h => by omega
  | m + 1, h => by
    rw [held]
    by_cases e : i = m
    · rw [← e, if_pos h1, Nat.testBit_or, h2, Bool.or_true]
    · have ih := held_has bs h1 h2 m (by omega)
      split
      · rw [Nat.testBit_or, ih, Bool.true_or]
      · exact ih
theorem path_edges (hV : V n R) (hf : fresh 0 t = true) (ht : ∀ v ∈ t, v < n) (hl : t.length = n) : bagsOk n (ints (pbs R t n)) ∧ edgesOk n R (ints (pbs R t n)) := by
  have hn := hV.le
  constructor
  · intro i hi
    rw [ints_len, pbs_len] at hi
    have h := rd_ints (pbs R t n) i
    rw [rd_nat, pbs_at hi] at h
    have := pb_lt (R := R) hn ht (show i < t.length by omega)
    have := Nat.two_pow_pos n
    rw [h]
    omega
  · intro v hv
    rw [ints_len, pbs_len]
    apply set_ext
    intro w
    rw [sd_bit, Nat.zero_testBit]
    cases hw : (R v).testBit w with
    | false => rfl
    | true =>
      have hwn : w < n := by
        apply Classical.byContradiction
        intro hc
        rw [lt_iff_bits.1 (hV.lt v hv) w (by omega)] at hw
        cases hw
      obtain ⟨p, hp, ep⟩ := place_of hf hn ht hl hv
      obtain ⟨q, hq, eq⟩ := place_of hf hn ht hl hwn
      have hpq : p ≠ q := by
        intro e
        rw [e, eq] at ep
        rw [← ep, hV.irr' w] at hw
        cases hw
      have in_ : ∀ {a b x y : Nat}, a < n → b < n → t.getD a 0 = x → t.getD b 0 = y → a < b → (R x).testBit y = true → (pb R t b).testBit x = true ∧ (pb R t b).testBit y = true := by
        intro a b x y ha hb ex ey hab hxy
        have h1 := pre_at hf (p := a) (i := b) (by omega) (by omega)
        have h2 := pre_at hf (p := b) (i := b) (by omega) (by omega)
        rw [ex, decide_eq_true hab] at h1
        rw [ey, decide_eq_false (by omega)] at h2
        rw [pb_bit hn ht, pb_bit hn ht, h1, decide_eq_true (outside_of hxy h2), decide_eq_true ey, Bool.or_true]
        exact ⟨rfl, rfl⟩
      have hb : ∃ i, i < n ∧ (pb R t i).testBit v = true ∧ (pb R t i).testBit w = true := by
        rcases Nat.lt_or_ge p q with h | h
        · obtain ⟨h1, h2⟩ := in_ hp hq ep eq h hw
          exact ⟨q, hq, h1, h2⟩
        · obtain ⟨h1, h2⟩ := in_ hq hp eq ep (by omega) (by rw [hV.sym']; exact hw)
          exact ⟨p, hp, h2, h1⟩
      obtain ⟨i, hi, h1, h2⟩ := hb
      rw [held_has (ints (pbs R t n)) (by rw [bg_ints, pbs_at hi]; exact h1) (by rw [bg_ints, pbs_at hi]; exact h2) n hi]
      rfl
theorem begins_ev (hV : V n R) (hf : fresh 0 t = true) (ht : ∀ v ∈ t, v < n) (hl : t.length = n) {v p : Nat} (hv : v < n) (hp : p < n) (ep : t.getD p 0 = v) {r : Bool}
    (h : Ev (fun k => impl_IsPathDecomposition.l1 k (ints (pbs R t n)) (v : Int) 1 (n : Int) (v : Int) (ints (pbs R t n)) (n : Int) (n : Int)) r) :
    Ev (fun k => impl_IsPathDecomposition.l1 k (ints (pbs R t n)) (v : Int) 0 (n : Int) (v : Int) (ints (pbs R t n)) (n : Int) 0) r := by
  have hn := hV.le
  have mem : ∀ i, i < n → (pb R t i).testBit v = (decide (p < i) && decide (sd (R v) (pre t i) ≠ 0) || decide (i = p)) := by
    intro i hi
    rw [pb_bit hn ht]
    have h1 := pre_at hf (p := p) (i := i) (by omega) (by omega)
    rw [ep] at h1
    rw [h1]
    congr 1
    rw [decide_eq_decide]
    constructor
    · intro e
      rcases Nat.lt_trichotomy i p with h | h | h
      · have h2 := pre_at hf (p := i) (i := p) (by omega) (by omega)
        have h3 := pre_at hf (p := p) (i := p) (by omega) (by omega)
        rw [e, decide_eq_true h] at h2
        rw [ep, h2, decide_eq_false (by omega)] at h3
        cases h3
      · exact h
      · have h2 := pre_at hf (p := p) (i := i) (by omega) (by omega)
        have h3 := pre_at hf (p := i) (i := i) (by omega) (by omega)
        rw [ep, decide_eq_true h] at h2
        rw [e, h2, decide_eq_false (by omega)] at h3
        cases h3
    · intro e; rw [e]; exact ep
  have hrd : ∀ i, i < n → rd (ints (pbs R t n)) (i : Int) = ((pb R t i : Nat) : Int) := fun i hi => by rw [rd_ints, pbs_at hi]
  have hlt : ∀ i, i < n → pb R t i < 2 ^ n := fun i hi => pb_lt hn ht (by omega)
  refine up_ev' (fun k i x => impl_IsPathDecomposition.l1 k (ints (pbs R t n)) (v : Int) x (n : Int) (v : Int) (ints (pbs R t n)) (n : Int) (i : Int)) n (fun i x => x = if p < i then 1 else 0) r ?_ ?_ 0 0 (Nat.zero_le _) (by rw [if_neg (by omega)])
  · rintro i _ hi rfl ih
    cases hb : (pb R t i).testBit v with
    | false =>
      rw [mem i hi] at hb
      have hip : i ≠ p := fun e => by rw [decide_eq_true e, Bool.or_true] at hb; cases hb
      refine Ev.late_step 0 (fun k _ => ?_) (ih (if p < i then 1 else 0) (by by_cases h : p < i; rw [if_pos h, if_pos (by omega)]; rw [if_neg h, if_neg (by omega)]))
      simp only [impl_IsPathDecomposition.l1]
      rw [if_pos (by omega), if_pos (by omega), if_pos (by rw [ints_len, pbs_len]; omega), hrd i hi, impl_has_f (lt62 hn (hlt i hi)) (by omega), Option.bind_some, mem i hi, hb, if_neg (by decide), wrap_succ (by omega)]
    | true =>
      have hb0 := hb
      rw [mem i hi] at hb
      by_cases hip : i = p
      · subst hip
        have e0 : (if i < i then (1 : Int) else 0) = 0 := if_neg (by omega)
        rw [e0]
        refine Ev.late_step 0 (fun k _ => ?_) (ih 1 (by rw [if_pos (by omega)]))
        simp only [impl_IsPathDecomposition.l1]
        rw [if_pos (by omega), if_pos (by omega), if_pos (by rw [ints_len, pbs_len]; omega), hrd i hi, impl_has_f (lt62 hn (hlt i hi)) (by omega), Option.bind_some, hb0, if_pos rfl, wrap_succ (by omega)]
        by_cases h0 : i = 0
        · rw [if_pos (by omega), show wrap64 ((0 : Int) + 1) = 1 from wrap_small (by omega) (by omega)]
        · have hm : wrap64 ((i : Int) - 1) = ((i - 1 : Nat) : Int) := by rw [wrap_small (by omega) (by omega)]; omega
          have hprev : (pb R t (i - 1)).testBit v = false := by rw [mem (i - 1) (by omega), decide_eq_false (show ¬ i < i - 1 by omega), Bool.false_and, decide_eq_false (show ¬ i - 1 = i by omega)]; rfl
          rw [if_neg (by omega), hm, if_pos (by omega), if_pos (by rw [ints_len, pbs_len]; omega), hrd _ (by omega), impl_has_f (lt62 hn (hlt _ (by omega))) (by omega), Option.bind_some, hprev, if_neg (by decide), show wrap64 ((0 : Int) + 1) = 1 from wrap_small (by omega) (by omega)]
      · rw [decide_eq_false hip, Bool.or_false, Bool.and_eq_true, decide_eq_true_eq, decide_eq_true_eq] at hb
        obtain ⟨hpi, ho⟩ := hb
        have hm : wrap64 ((i : Int) - 1) = ((i - 1 : Nat) : Int) := by rw [wrap_small (by omega) (by omega)]; omega
        have hprev : (pb R t (i - 1)).testBit v = true := by
          rw [mem (i - 1) (by omega)]
          by_cases e : i - 1 = p
          · rw [decide_eq_true e, Bool.or_true]
          · obtain ⟨w, hw1, hw2⟩ := outside_ex ho
            have hw3 : (pre t (i - 1)).testBit w = false := by
              have := pre_succ (t := t) (i := i - 1) (by omega)
              rw [show i - 1 + 1 = i by omega] at this
              rw [this, Nat.testBit_or, Bool.or_eq_false_iff] at hw2
              exact hw2.1
            rw [decide_eq_true (by omega), decide_eq_true (outside_of hw1 hw3)]
            rfl
        have e1 : (if p < i then (1 : Int) else 0) = 1 := if_pos hpi
        rw [e1]
        refine Ev.late_step 0 (fun k _ => ?_) (ih 1 (by rw [if_pos (by omega)]))
        simp only [impl_IsPathDecomposition.l1]
        rw [if_pos (by omega), if_pos (by omega), if_pos (by rw [ints_len, pbs_len]; omega), hrd i hi, impl_has_f (lt62 hn (hlt i hi)) (by omega), Option.bind_some, hb0, if_pos rfl, wrap_succ (by omega), if_neg (by omega), hm, if_pos (by omega), if_pos (by rw [ints_len, pbs_len]; omega), hrd _ (by omega), impl_has_f (lt62 hn (hlt _ (by omega))) (by omega), Option.bind_some, hprev, if_pos rfl]
  · rintro x rfl
    rw [if_pos hp]
    exact h
theorem isPath_ev (hV : V n R) (hf : fresh 0 t = true) (ht : ∀ v ∈ t, v < n) (hl : t.length = n) : Ev (fun k => impl_IsPathDecomposition.f k (n : Int) (rows n R) (ints (pbs R t n))) true := by
  have hn := hV.le
  have hL : Ev (fun k => impl_IsPathDecomposition.l0 k (ints (pbs R t n)) (n : Int) ((0 : Nat) : Int)) true := by
    refine upto_ev (fun k v => impl_IsPathDecomposition.l0 k (ints (pbs R t n)) (n : Int) (v : Int)) n (fun _ => True) _ ?_ ?_ 0 (Nat.zero_le _) trivial
    · intro v hv _ ih
      obtain ⟨p, hp, ep⟩ := place_of hf hn ht hl hv
      have h1 : Ev (fun k => impl_IsPathDecomposition.l1 k (ints (pbs R t n)) (v : Int) 1 (n : Int) (v : Int) (ints (pbs R t n)) (n : Int) (n : Int)) true := by
        refine Ev.late_step 0 (fun k _ => ?_) (ih trivial)
        simp only [impl_IsPathDecomposition.l1]
        rw [if_neg (by omega), if_pos trivial, wrap_succ (by omega)]
      refine Ev.late_step 0 (fun k _ => ?_) (begins_ev hV hf ht hl hv hp ep h1)
      simp only [impl_IsPathDecomposition.l0]
      rw [if_pos (by omega), ints_len, pbs_len]
    · intro _
      refine Ev.one fun k => ?_
      simp only [impl_IsPathDecomposition.l0]
      rw [if_neg (by omega)]
  obtain ⟨K, h⟩ := impl_GraphOk_ev (n : Int) (rows n R)
  obtain ⟨K1, h1⟩ := areBags_ev (bs := ints (pbs R t n)) hV (by rw [ints_len, pbs_len]; omega)
  obtain ⟨K2, h2⟩ := hL
  rw [gB_rows hV] at h
  rw [cd_true (path_edges hV hf ht hl)] at h1
  refine ⟨K + K1 + K2 + 1, fun k hk => ?_⟩
  obtain ⟨k, rfl⟩ : ∃ m, k = m + 1 := ⟨k - 1, by omega⟩
  have e := h (k + 1) (by omega)
  have e1 := h1 (k + 1) (by omega)
  have e2 := h2 k (by omega)
  simp only at e e1 e2 ⊢
  unfold impl_IsPathDecomposition.f
  rw [e, Option.bind_some, if_pos rfl, if_neg (by rw [ints_len, pbs_len]; omega), e1, Option.bind_some]
  simp only [impl_IsPathDecomposition.j0]
  rw [if_neg (by decide)]
  exact e2
end
end Go.Proofs.Ytakgeblhdckccaa.P
