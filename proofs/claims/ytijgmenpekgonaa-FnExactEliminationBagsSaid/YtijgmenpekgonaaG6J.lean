/- The neighbors behind a vertex: how a set grows inside another, and the price of a vertex in an elimination; the program and the reference agree. -/
import Derived.Test.YtijgmenpekgonaaG5J
import Derived.Test.YtijgmenpekgonaaQj5
import Derived.Test.YtijgmenpekgonaaQj1
namespace Go.Proofs.Ytijgmenpekgonaa.P
open Go.RowKit Go.Proofs.YtijgmenpekgonaaW.PrintWords Go.Proofs.YtijgmenpekgonaaW.PrintLast Go.Proofs.YtijgmenpekgonaaW.PrintMore Go.Proofs.Ytijgmenpekgonaa.Q
set_option linter.unusedVariables false

/-! ### how many -/
theorem cnt_le {n S : Nat} (hS : S < 2 ^ n) : cnt S ≤ n := by
  have go : ∀ m, ((List.range m).filter S.testBit).length ≤ n := by
    intro m
    by_cases hm : m ≤ n
    · have := bl_upto_len S m
      omega
    · obtain ⟨d, rfl⟩ : ∃ d, m = n + d := ⟨m - n, by omega⟩
      clear hm
      induction d with
      | zero => exact bl_upto_len S n
      | succ d ih =>
        rw [show n + (d + 1) = n + d + 1 by omega, range_filter_succ, lt_iff_bits.1 hS _ (by omega), if_neg (by decide), List.append_nil]
        exact ih
  exact go 8
theorem cnt_pos {S v : Nat} (h8 : v < 8) (h : S.testBit v = true) : 1 ≤ cnt S := List.length_pos_of_mem (mem_bl h8 h)
set_option maxRecDepth 100000 in
theorem ones_all : ∀ S, S < 256 → bits_OnesCount64.f ((S : Nat) : Int) = some ((cnt S : Nat) : Int) := by decide +kernel
theorem count_impl {S : Nat} (hS : S < 256) : impl_CountSet.f (S : Int) = some ((cnt S : Nat) : Int) := by
  unfold impl_CountSet.f
  rw [impl_isSet_f, Option.bind_some, decide_eq_true (by omega), if_pos rfl]
  have e : IntKind.u64.wrap (S : Int) = (S : Int) := by rw [IntKind.wrap_u64]; omega
  unfold bits_OnesCount.f
  rw [e, ones_all S hS]
  rfl
theorem count_spec_ev {S : Nat} (hS : S < 2 ^ 62) : Ev (fun k => spec_l02Count.f k (S : Int)) ((cnt S : Nat) : Int) := by
  obtain ⟨K, h⟩ := list_spec_ev hS
  refine ⟨K, fun k hk => ?_⟩
  have e := h k hk
  simp only at e ⊢
  unfold spec_l02Count.f
  rw [e, Option.bind_some, ints_len]
  rfl

/-! ### growing inside a set -/
/-- From v on, i steps of growing inside D. -/
def grow (R : Nat → Nat) (D v : Nat) : Nat → Nat
  | 0 => 2 ^ v
  | i + 1 => near R (grow R D v i) &&& D
theorem near_mono (R : Nat → Nat) {A B : Nat} (h : ∀ i, A.testBit i = true → B.testBit i = true) {i : Nat} (hi : (near R A).testBit i = true) : (near R B).testBit i = true := by
  rw [near_bit] at hi ⊢
  rw [Bool.or_eq_true, List.any_eq_true] at hi ⊢
  rcases hi with hi | ⟨j, hj, hji⟩
  · exact .inl (h i hi)
  · rw [Bool.and_eq_true] at hji
    exact .inr ⟨j, hj, by rw [h j hji.1, hji.2]; rfl⟩
section
variable {n : Nat} {R : Nat → Nat} {D v : Nat}
theorem grow_bits (hD : D.testBit v = true) (i : Nat) : (grow R D v i).testBit v = true ∧ ∀ j, (grow R D v i).testBit j = true → D.testBit j = true := by
  induction i with
  | zero =>
    refine ⟨bit_self v, fun j hj => ?_⟩
    rw [grow, bit_eq] at hj
    have : v = j := by simpa using hj
    rw [← this]; exact hD
  | succ i ih =>
    constructor
    · rw [grow, Nat.testBit_and, near_self R ih.1, hD]; rfl
    · intro j hj
      rw [grow, Nat.testBit_and, Bool.and_eq_true] at hj
      exact hj.2
theorem grow_lt (hD : D < 2 ^ n) (hv : v < n) (i : Nat) : grow R D v i < 2 ^ n := by
  cases i with
  | zero => exact bit_lt hv
  | succ i => rw [grow, Nat.and_comm]; exact and_lt _ hD
theorem grow_up (hD : D.testBit v = true) (i j : Nat) (h : (grow R D v i).testBit j = true) : (grow R D v (i + 1)).testBit j = true := by
  rw [grow, Nat.testBit_and, near_self R h, (grow_bits hD i).2 j h]; rfl
theorem grow_stays {m : Nat} (h : grow R D v (m + 1) = grow R D v m) (d : Nat) : grow R D v (m + d) = grow R D v m := by
  induction d with
  | zero => rfl
  | succ d ih =>
    rw [show m + (d + 1) = m + d + 1 by omega, grow, ih]
    exact h
theorem grow_ends (hn : n ≤ 8) (hDn : D < 2 ^ n) (hv : v < n) (hD : D.testBit v = true) : ∃ m, m < n ∧ grow R D v (m + 1) = grow R D v m ∧ ∀ i, i < m → grow R D v (i + 1) ≠ grow R D v i := by
  have go : ∀ d, (∃ m, m < d ∧ grow R D v (m + 1) = grow R D v m ∧ ∀ i, i < m → grow R D v (i + 1) ≠ grow R D v i) ∨ ((∀ i, i < d → grow R D v (i + 1) ≠ grow R D v i) ∧ d + 1 ≤ cnt (grow R D v d)) := by
    intro d
    induction d with
    | zero => exact .inr ⟨fun i hi => by omega, cnt_pos (show v < 8 by omega) (grow_bits hD 0).1⟩
    | succ d ih =>
      rcases ih with ⟨m, h1, h2, h3⟩ | ⟨h1, h2⟩
      · exact .inl ⟨m, by omega, h2, h3⟩
      · by_cases h : grow R D v (d + 1) = grow R D v d
        · exact .inl ⟨d, by omega, h, h1⟩
        · refine .inr ⟨fun i hi => ?_, ?_⟩
          · by_cases e : i = d
            · subst e; exact h
            · exact h1 i (by omega)
          · have := cnt_lt (A := grow R D v d) (B := grow R D v (d + 1)) (lt8 hn (grow_lt hDn hv _)) (fun i hi => grow_up hD d i hi) (fun e => h e.symm)
            omega
  rcases go n with ⟨m, h1, h2, h3⟩ | ⟨_, h⟩
  · exact ⟨m, h1, h2, h3⟩
  · have := cnt_le (grow_lt (R := R) hDn hv n)
    omega
/-- The part of D that v reaches. -/
def part (n : Nat) (R : Nat → Nat) (D v : Nat) : Nat := grow R D v n
theorem part_fix (hn : n ≤ 8) (hDn : D < 2 ^ n) (hv : v < n) (hD : D.testBit v = true) : near R (part n R D v) &&& D = part n R D v := by
  obtain ⟨m, hm, h, _⟩ := grow_ends (R := R) hn hDn hv hD
  have h1 := grow_stays h (n - m)
  rw [show m + (n - m) = n by omega] at h1
  unfold part
  rw [h1]
  exact h
end

/-! ### the program's part -/
theorem part_ev {n : Nat} {R : Nat → Nat} (hV : V n R) (s : Int) {D v : Nat} (hDn : D < 2 ^ n) (hv : v < n) (hD : D.testBit v = true) : Ev (fun k => impl_Graph_part.f k s (rows n R) (D : Int) (v : Int)) ((part n R D v : Nat) : Int) := by
  have hn := hV.le
  obtain ⟨m, hm, hme, hmin⟩ := grow_ends (R := R) hn hDn hv hD
  have e0 : part n R D v = grow R D v m := by
    have h1 := grow_stays hme (n - m)
    rwa [show m + (n - m) = n by omega] at h1
  have hstep : ∀ i, Ev (fun k => (impl_Graph_around.f k s (rows n R) ((grow R D v i : Nat) : Int)).bind fun t => some (Go.bits .and .i64 t (D : Int))) ((grow R D v (i + 1) : Nat) : Int) := by
    intro i
    obtain ⟨K, h⟩ := around_ev hV s (grow_lt (R := R) hDn hv i)
    refine ⟨K, fun k hk => ?_⟩
    have e := h k hk
    simp only at e ⊢
    rw [e, Option.bind_some, and_nat (lt62 hn (near_lt hV (grow_lt hDn hv i))) (lt62 hn hDn)]
    rfl
  have hL : Ev (fun k => impl_Graph_part.l0 k (D : Int) ((grow R D v 0 : Nat) : Int) s (rows n R)) ((part n R D v : Nat) : Int) := by
    refine upto_ev (fun k i => impl_Graph_part.l0 k (D : Int) ((grow R D v i : Nat) : Int) s (rows n R)) m (fun _ => True) _ ?_ ?_ 0 (Nat.zero_le _) trivial
    · intro i hi _ ih
      obtain ⟨K, h⟩ := around_ev hV s (grow_lt (R := R) hDn hv i)
      refine Ev.late_step K (fun k hk => ?_) (ih trivial)
      have e := h k hk
      simp only at e
      simp only [impl_Graph_part.l0]
      rw [e, Option.bind_some, and_nat (lt62 hn (near_lt hV (grow_lt hDn hv i))) (lt62 hn hDn)]
      change (if ((grow R D v (i + 1) : Nat) : Int) = _ then _ else _) = _
      rw [if_neg (fun hc => hmin i hi (by exact_mod_cast hc))]
      rfl
    · intro _
      obtain ⟨K, h⟩ := around_ev hV s (grow_lt (R := R) hDn hv m)
      refine Ev.late K (fun k hk => ?_)
      have e := h k hk
      simp only at e
      simp only [impl_Graph_part.l0]
      rw [e, Option.bind_some, and_nat (lt62 hn (near_lt hV (grow_lt hDn hv m))) (lt62 hn hDn)]
      change (if ((grow R D v (m + 1) : Nat) : Int) = _ then _ else _) = _
      rw [if_pos (by rw [hme]), e0]
  refine Ev.late_eq 0 (fun k _ => ?_) hL
  unfold impl_Graph_part.f
  rw [impl_bit_f (by omega), Option.bind_some]
  rfl

/-! ### the neighbors behind v -/
/-- Who is met behind v when S is gone. -/
def beh (n : Nat) (R : Nat → Nat) (S v : Nat) : Nat := sd (sd (near R (part n R (S ||| 2 ^ v) v)) S) (2 ^ v)
def cost (n : Nat) (R : Nat → Nat) (S v : Nat) : Nat := cnt (beh n R S v)
section
variable {n : Nat} {R : Nat → Nat} {S v : Nat}
theorem or_self_bit (S v : Nat) : (S ||| 2 ^ v).testBit v = true := by rw [Nat.testBit_or, bit_self, Bool.or_true]
theorem part_lt (hS : S < 2 ^ n) (hv : v < n) : part n R (S ||| 2 ^ v) v < 2 ^ n := grow_lt (or_bit_lt hS hv) hv n
theorem beh_lt (hV : V n R) (hS : S < 2 ^ n) (hv : v < n) : beh n R S v < 2 ^ n := sd_lt _ (sd_lt _ (near_lt hV (part_lt hS hv)))
theorem cost_low (hV : V n R) : Low n (cost n R) := by
  intro S v hS hv hb
  have h1 := cnt_lt (A := beh n R S v) (B := 2 ^ n - 1) (lt8 hV.le (all_lt n)) (fun i hi => by
    rw [all_bit]
    by_cases h : i < n
    · exact decide_eq_true h
    · rw [lt_iff_bits.1 (beh_lt hV hS hv) i (by omega)] at hi; cases hi) (fun e => by
    have := congrArg (fun x => x.testBit v) e
    simp only [beh, sd_bit, bit_self, all_bit, decide_eq_true hv] at this
    simp at this)
  have h2 := cnt_le (all_lt n)
  have h3 := hV.le
  unfold cost
  omega
theorem behind_ev (hV : V n R) (s : Int) : EvP (fun k => Pays n (cost n R) (impl_Graph_neighborsBehind.f k s (rows n R))) := by
  have hn := hV.le
  have one : ∀ S v : Nat, S < 2 ^ n → v < n → Ev (fun k => impl_Graph_neighborsBehind.f k s (rows n R) (S : Int) (v : Int)) ((cost n R S v : Nat) : Int) := by
    intro S v hS hv
    obtain ⟨K, h⟩ := part_ev hV s (or_bit_lt hS hv) hv (or_self_bit S v)
    obtain ⟨K2, h2⟩ := around_ev hV s (part_lt (R := R) hS hv)
    refine ⟨K + K2, fun k hk => ?_⟩
    have e := h k (by omega)
    have e2 := h2 k (by omega)
    simp only at e e2 ⊢
    have hp := near_lt hV (part_lt (R := R) hS hv)
    unfold impl_Graph_neighborsBehind.f
    rw [impl_bit_f (by omega), Option.bind_some, or_nat (lt62 hn hS) (lt62 hn (bit_lt hv)), e, Option.bind_some, e2, Option.bind_some, Option.bind_some, andNot_nat (lt62 hn hp) (lt62 hn hS), andNot_nat (lt62 hn (sd_lt _ hp)) (lt62 hn (bit_lt hv))]
    change ((impl_CountSet.f ((beh n R S v : Nat) : Int)).bind fun t106 => some t106) = _
    rw [count_impl (lt_256 hn (beh_lt hV hS hv))]
    rfl
  -- over all sets and vertices at once
  have two : ∀ m, EvP (fun k => ∀ S : Nat, S < 2 ^ n → ∀ v : Nat, v < m → v < n → impl_Graph_neighborsBehind.f k s (rows n R) (S : Int) (v : Int) = some ((cost n R S v : Nat) : Int)) := by
    intro m
    induction m with
    | zero => exact ⟨0, fun k _ S _ v hv => by omega⟩
    | succ m ih =>
      have three : ∀ q : Nat, EvP (fun k => ∀ S : Nat, S < q → S < 2 ^ n → m < n → impl_Graph_neighborsBehind.f k s (rows n R) (S : Int) (m : Int) = some ((cost n R S m : Nat) : Int)) := by
        intro q
        induction q with
        | zero => exact ⟨0, fun k _ S hS => by omega⟩
        | succ q ihq =>
          obtain ⟨K, h⟩ := ihq
          by_cases hq : q < 2 ^ n ∧ m < n
          · obtain ⟨K2, h2⟩ := one q m hq.1 hq.2
            refine ⟨K + K2, fun k hk S hS hS2 hm => ?_⟩
            by_cases e : S = q
            · rw [e]; exact h2 k (by omega)
            · exact h k (by omega) S (by omega) hS2 hm
          · refine ⟨K, fun k hk S hS hS2 hm => ?_⟩
            have hne : S ≠ q := fun e => hq ⟨by omega, hm⟩
            exact h k hk S (by omega) hS2 hm
      obtain ⟨K, h⟩ := ih
      obtain ⟨K2, h2⟩ := three (2 ^ n)
      refine ⟨K + K2, fun k hk S hS v hv hvn => ?_⟩
      by_cases e : v = m
      · rw [e] at hvn ⊢; exact h2 k (by omega) S hS hS hvn
      · exact h k (by omega) S hS v (by omega) hvn
  exact EvP.imp (fun k h S v hS hv _ => h S hS v hv hv) (two n)
/-- The reference's set of those who are met behind v. -/
theorem around_step (hb : S.testBit v = false) (i : Nat) : grow R (S ||| 2 ^ v) v i ||| (near R (grow R (S ||| 2 ^ v) v i) &&& S) = grow R (S ||| 2 ^ v) v (i + 1) := by
  have hg := grow_bits (R := R) (or_self_bit S v) i
  apply set_ext
  intro j
  rw [grow, Nat.testBit_or, Nat.testBit_and, Nat.testBit_and, Nat.testBit_or, bit_eq]
  cases hj : (grow R (S ||| 2 ^ v) v i).testBit j with
  | true =>
    have h1 := hg.2 j hj
    rw [Nat.testBit_or, bit_eq] at h1
    rw [near_self R hj, h1]; rfl
  | false =>
    have hne : v ≠ j := by
      intro e
      rw [e] at hg
      rw [e] at hj
      rw [hg.1] at hj
      cases hj
    rw [decide_eq_false hne, Bool.or_false, Bool.false_or]
theorem around_spec_ev (hV : V n R) (hS : S < 2 ^ n) (hv : v < n) (hb : S.testBit v = false) : Ev (fun k => spec_l10Around.f k (n : Int) (rows n R) (S : Int) (v : Int)) ((beh n R S v : Nat) : Int) := by
  have hn := hV.le
  have hDl := or_bit_lt hS hv
  have hL : Ev (fun k => spec_l10Around.l0 k (S : Int) (v : Int) ((grow R (S ||| 2 ^ v) v 0 : Nat) : Int) ((0 : Nat) : Int) (n : Int) (rows n R)) ((beh n R S v : Nat) : Int) := by
    refine upto_ev (fun k i => spec_l10Around.l0 k (S : Int) (v : Int) ((grow R (S ||| 2 ^ v) v i : Nat) : Int) (i : Int) (n : Int) (rows n R)) n (fun _ => True) _ ?_ ?_ 0 (Nat.zero_le _) trivial
    · intro i hi _ ih
      have hg := grow_lt (R := R) hDl hv i
      obtain ⟨K, h⟩ := near_spec_ev hV (n : Int) hg
      refine Ev.late_step K (fun k hk => ?_) (ih trivial)
      have e := h k hk
      simp only at e
      simp only [spec_l10Around.l0]
      rw [if_pos (by omega), e, Option.bind_some, and_nat (lt62 hn (near_lt hV hg)) (lt62 hn hS), or_nat (lt62 hn hg) (lt62 hn (and_lt _ (near_lt hV hg))), wrap_succ (by omega), around_step hb]
    · intro _
      have hg := grow_lt (R := R) hDl hv n
      obtain ⟨K, h⟩ := near_spec_ev hV (n : Int) hg
      refine Ev.late K (fun k hk => ?_)
      have e := h k hk
      simp only at e
      simp only [spec_l10Around.l0]
      rw [if_neg (by omega), e, Option.bind_some, if_pos (by omega), andNot_nat (lt62 hn (near_lt hV hg)) (lt62 hn hS), shl1 (by omega), andNot_nat (lt62 hn (sd_lt _ (near_lt hV hg))) (lt62 hn (bit_lt hv))]
      rfl
  refine Ev.late_eq 0 (fun k _ => ?_) hL
  unfold spec_l10Around.f
  rw [if_pos (by omega), shl1 (by omega)]
  rfl
end
end Go.Proofs.Ytijgmenpekgonaa.P
