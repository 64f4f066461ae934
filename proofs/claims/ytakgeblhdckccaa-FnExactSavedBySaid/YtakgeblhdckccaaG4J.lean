/- The fire's spread: the burned set round by round; the program and the reference answer alike. -/
import Derived.Test.YtakgeblhdckccaaG3J
import Derived.Test.YtakgeblhdckccaaGNJ
import Derived.Test.YtakgeblhdckccaaQj2
import Derived.Test.YtakgeblhdckccaaQj0
namespace Go.Proofs.Ytakgeblhdckccaa.P
open Go.RowKit Go.Proofs.YtakgeblhdckccaaW.PrintWords Go.Proofs.YtakgeblhdckccaaW.PrintLast Go.Proofs.YtakgeblhdckccaaW.PrintMore Go.Proofs.Ytakgeblhdckccaa.Q
set_option linter.unusedVariables false

/-! ### one round of a fire -/
/-- What is saved after a round, x the vertex that is saved in it. -/
def hN (B H : Nat) (x : Int) : Nat := if 0 ≤ x ∧ B.testBit x.toNat = false then H ||| 2 ^ x.toNat else H
/-- What is burned after a round. -/
def bN (R : Nat → Nat) (B H : Nat) (x : Int) : Nat := sd (near R B) (hN B H x)
/-- The round i of a fire from a with the saved vertices p. -/
def burn (R : Nat → Nat) (a : Nat) (p : List Int) : Nat → Nat × Nat
  | 0 => (2 ^ a, 0)
  | i + 1 => (bN R (burn R a p i).1 (burn R a p i).2 (p.getD i (-1)), hN (burn R a p i).1 (burn R a p i).2 (p.getD i (-1)))
/-- A state of a fire. -/
structure St (n B H : Nat) : Prop where
  b : B < 2 ^ n
  h : H < 2 ^ n
  d : ∀ i, B.testBit i = true → H.testBit i = false
theorem hN_lt {n B H : Nat} {x : Int} (hs : St n B H) (hx : x < n) : hN B H x < 2 ^ n := by
  unfold hN
  split
  · exact or_lt hs.h (bit_lt (by omega))
  · exact hs.h
theorem hN_dis {n B H : Nat} {x : Int} (hs : St n B H) {i : Nat} (hi : B.testBit i = true) : (hN B H x).testBit i = false := by
  unfold hN
  split
  · rename_i h
    rw [Nat.testBit_or, hs.d i hi, bit_eq, Bool.false_or]
    by_cases e : x.toNat = i
    · rw [e, hi] at h; exact absurd h.2 (by decide)
    · exact decide_eq_false e
  · exact hs.d i hi
theorem hN_mono {B H : Nat} {x : Int} {i : Nat} (h : H.testBit i = true) : (hN B H x).testBit i = true := by
  unfold hN
  split
  · rw [Nat.testBit_or, h, Bool.true_or]
  · exact h
theorem bN_bit (R : Nat → Nat) (B H : Nat) (x : Int) (i : Nat) : (bN R B H x).testBit i = ((near R B).testBit i && !(hN B H x).testBit i) := sd_bit _ _ _
theorem bN_sup {n B H : Nat} {x : Int} (R : Nat → Nat) (hs : St n B H) {i : Nat} (hi : B.testBit i = true) : (bN R B H x).testBit i = true := by
  rw [bN_bit, near_self R hi, hN_dis hs hi]; rfl
theorem St.next {n B H : Nat} {R : Nat → Nat} (hV : V n R) {x : Int} (hs : St n B H) (hx : x < n) : St n (bN R B H x) (hN B H x) :=
  ⟨sd_lt _ (near_lt hV hs.b), hN_lt hs hx, fun i hi => by rw [bN_bit] at hi; cases h : (hN B H x).testBit i with | false => rfl | true => rw [h] at hi; simp at hi⟩
theorem burn_st {n : Nat} {R : Nat → Nat} (hV : V n R) {a : Nat} (ha : a < n) {p : List Int} (hp : ∀ i, p.getD i (-1) < n) (i : Nat) : St n (burn R a p i).1 (burn R a p i).2 := by
  induction i with
  | zero => exact ⟨bit_lt ha, Nat.two_pow_pos n, fun i _ => Nat.zero_testBit i⟩
  | succ i ih => exact ih.next hV (hp i)
/-- Once a round burns nothing new, no later one does. -/
theorem burn_stays {n : Nat} {R : Nat → Nat} (hV : V n R) {a : Nat} (ha : a < n) {p : List Int} (hp : ∀ i, p.getD i (-1) < n) {m : Nat} (hm : (burn R a p (m + 1)).1 = (burn R a p m).1) (d : Nat) : (burn R a p (m + d)).1 = (burn R a p m).1 ∧ (∀ i, (burn R a p (m + 1)).2.testBit i = true → (burn R a p (m + 1 + d)).2.testBit i = true) := by
  induction d with
  | zero => exact ⟨rfl, fun i h => h⟩
  | succ d ih =>
    have hh : ∀ i, (burn R a p (m + 1)).2.testBit i = true → (burn R a p (m + (d + 1))).2.testBit i = true := by
      intro i hi
      have := ih.2 i hi
      rwa [show m + 1 + d = m + (d + 1) by omega] at this
    constructor
    · apply set_ext
      intro i
      have hst := burn_st hV ha hp (m + d)
      rw [Bool.eq_iff_iff]
      constructor
      · intro h
        rw [← hm]
        change (bN R (burn R a p (m + d)).1 (burn R a p (m + d)).2 (p.getD (m + d) (-1))).testBit i = true at h
        rw [bN_bit, ih.1] at h
        change (bN R (burn R a p m).1 (burn R a p m).2 (p.getD m (-1))).testBit i = true
        rw [bN_bit]
        have h1 : (near R (burn R a p m).1).testBit i = true := by
          cases h0 : (near R (burn R a p m).1).testBit i with
          | true => rfl
          | false => rw [h0, Bool.false_and] at h; cases h
        rw [h1, Bool.true_and] at h ⊢
        cases h2 : (hN (burn R a p m).1 (burn R a p m).2 (p.getD m (-1))).testBit i with
        | false => rfl
        | true =>
          have := hh i h2
          change (hN (burn R a p (m + d)).1 (burn R a p (m + d)).2 (p.getD (m + d) (-1))).testBit i = true at this
          rw [ih.1] at this
          rw [this] at h
          exact h
      · intro h
        rw [← ih.1] at h
        exact bN_sup R hst h
    · intro i hi
      rw [show m + 1 + (d + 1) = m + (d + 1) + 1 by omega]
      exact hN_mono (hh i hi)
/-- Some round among the first eight burns nothing new; m is the first such. -/
theorem burn_ends {n : Nat} {R : Nat → Nat} (hV : V n R) {a : Nat} (ha : a < n) {p : List Int} (hp : ∀ i, p.getD i (-1) < n) : ∃ m, m ≤ 8 ∧ (burn R a p (m + 1)).1 = (burn R a p m).1 ∧ ∀ i, i < m → (burn R a p (i + 1)).1 ≠ (burn R a p i).1 := by
  have go : ∀ d, (∃ m, m < d ∧ (burn R a p (m + 1)).1 = (burn R a p m).1 ∧ ∀ i, i < m → (burn R a p (i + 1)).1 ≠ (burn R a p i).1) ∨ ((∀ i, i < d → (burn R a p (i + 1)).1 ≠ (burn R a p i).1) ∧ d ≤ cnt (burn R a p d).1) := by
    intro d
    induction d with
    | zero => exact .inr ⟨fun i hi => by omega, Nat.zero_le _⟩
    | succ d ih =>
      rcases ih with ⟨m, h1, h2, h3⟩ | ⟨h1, h2⟩
      · exact .inl ⟨m, by omega, h2, h3⟩
      · by_cases h : (burn R a p (d + 1)).1 = (burn R a p d).1
        · exact .inl ⟨d, by omega, h, h1⟩
        · refine .inr ⟨fun i hi => ?_, ?_⟩
          · by_cases e : i = d
            · subst e; exact h
            · exact h1 i (by omega)
          · have := cnt_lt (A := (burn R a p d).1) (B := (burn R a p (d + 1)).1) (lt8 hV.le (burn_st hV ha hp (d + 1)).b) (fun i hi => bN_sup R (burn_st hV ha hp d) hi) (fun e => h e.symm)
            omega
  rcases go 9 with ⟨m, h1, h2, h3⟩ | ⟨_, h⟩
  · exact ⟨m, by omega, h2, h3⟩
  · have := bl_len (burn R a p 9).1
    unfold cnt at h
    omega

/-! ### the program's fire -/
theorem after_ev {n : Nat} {R : Nat → Nat} (hV : V n R) (s : Int) {B H : Nat} (hs : St n B H) {x : Int} (hx : x < n) :
    Ev (fun k => impl_Graph_after.f k s (rows n R) (B : Int) (H : Int) x) (((bN R B H x : Nat) : Int), ((hN B H x : Nat) : Int), decide (bN R B H x ≠ B)) := by
  have hn := hV.le
  have hne : ∀ c : Nat, (((c : Nat) : Int) != (B : Int)) = decide (c ≠ B) := by
    intro c
    by_cases h : c = B
    · subst h; simp
    · rw [decide_eq_true h]; simp only [bne_iff_ne, ne_eq]; omega
  obtain ⟨K, h⟩ := around_ev hV s hs.b
  by_cases hc : 0 ≤ x ∧ B.testBit x.toNat = false
  · obtain ⟨v, rfl⟩ : ∃ v : Nat, x = (v : Int) := ⟨x.toNat, by omega⟩
    have hv : v < n := by omega
    rw [Int.toNat_natCast] at hc
    have e1 : hN B H (v : Int) = H ||| 2 ^ v := by unfold hN; rw [Int.toNat_natCast, if_pos hc]
    have hlt := hN_lt hs hx
    rw [e1] at hlt
    refine ⟨K + 1, fun k hk => ?_⟩
    obtain ⟨k, rfl⟩ : ∃ m, k = m + 1 := ⟨k - 1, by omega⟩
    have e := h k (by omega)
    simp only at e
    show impl_Graph_after.f (k + 1) s (rows n R) (B : Int) (H : Int) (v : Int) = _
    unfold impl_Graph_after.f
    rw [if_pos (by omega), impl_has_f (lt62 hn hs.b) (by omega), Option.bind_some, hc.2]
    simp only [impl_Graph_after.j0, Bool.not_false]
    rw [if_pos trivial, impl_bit_f (by omega), Option.bind_some, e, Option.bind_some, or_nat (lt62 hn hs.h) (lt62 hn (bit_lt hv)), andNot_nat (lt62 hn (near_lt hV hs.b)) (lt62 hn hlt)]
    rw [hne]
    unfold bN
    rw [e1]
  · have e1 : hN B H x = H := by unfold hN; rw [if_neg hc]
    refine ⟨K + 1, fun k hk => ?_⟩
    obtain ⟨k, rfl⟩ : ∃ m, k = m + 1 := ⟨k - 1, by omega⟩
    have e := h k (by omega)
    simp only at e
    have e2 : impl_Graph_after.j0 (k + 1) x false s (rows n R) (B : Int) (H : Int) = some (((bN R B H x : Nat) : Int), ((hN B H x : Nat) : Int), decide (bN R B H x ≠ B)) := by
      simp only [impl_Graph_after.j0]
      rw [if_neg (by decide), e, Option.bind_some, andNot_nat (lt62 hn (near_lt hV hs.b)) (lt62 hn hs.h), hne]
      unfold bN
      rw [e1]
    show impl_Graph_after.f (k + 1) s (rows n R) (B : Int) (H : Int) x = _
    unfold impl_Graph_after.f
    by_cases h0 : x ≥ 0
    · obtain ⟨v, rfl⟩ : ∃ v : Nat, x = (v : Int) := ⟨x.toNat, by omega⟩
      rw [Int.toNat_natCast] at hc
      have hb : B.testBit v = true := by
        cases hb : B.testBit v with
        | true => rfl
        | false => exact absurd ⟨h0, hb⟩ hc
      rw [if_pos h0, impl_has_f (lt62 hn hs.b) (by omega), Option.bind_some, hb]
      exact e2
    · rw [if_neg h0]
      exact e2
theorem rd_place {p : List Int} {i : Nat} (h : i < p.length) : rd p (i : Int) = p.getD i (-1) := by
  rw [rd_nat]; simp [List.getD_eq_getElem?_getD, h]
theorem place_out {p : List Int} {i : Nat} (h : ¬ i < p.length) : p.getD i (-1) = -1 := by
  simp [List.getD_eq_getElem?_getD, List.getElem?_eq_none (show p.length ≤ i by omega)]
theorem burned_impl {n : Nat} {R : Nat → Nat} (hV : V n R) {a : Nat} (ha : a < n) {p : List Int} (hp : ∀ i, p.getD i (-1) < n) {m : Nat} (hm8 : m ≤ 8) (hm : (burn R a p (m + 1)).1 = (burn R a p m).1) (hmin : ∀ i, i < m → (burn R a p (i + 1)).1 ≠ (burn R a p i).1) (s : Int) :
    Ev (fun k => impl_Graph_burned.f k s (rows n R) (a : Int) p) (((burn R a p m).1 : Int), (m : Int)) := by
  have hn := hV.le
  have hL : Ev (fun k => impl_Graph_burned.l0 k p ((0 : Nat) : Int) s (rows n R) ((burn R a p 0).1 : Int) ((burn R a p 0).2 : Int)) (((burn R a p m).1 : Int), (m : Int)) := by
    refine upto_ev (fun k i => impl_Graph_burned.l0 k p (i : Int) s (rows n R) ((burn R a p i).1 : Int) ((burn R a p i).2 : Int)) m (fun i => True) _ ?_ ?_ 0 (Nat.zero_le _) trivial
    · intro i hi _ ih
      obtain ⟨K, h⟩ := after_ev hV s (burn_st hV ha hp i) (hp i)
      refine Ev.late_step K (fun k hk => ?_) (ih trivial)
      have e := h k hk
      simp only at e
      have hd : decide (bN R (burn R a p i).1 (burn R a p i).2 (p.getD i (-1)) ≠ (burn R a p i).1) = true := decide_eq_true (hmin i hi)
      rw [hd] at e
      simp only [impl_Graph_burned.l0]
      by_cases hl : i < p.length
      · rw [if_pos (by omega), if_pos (by omega), rd_place hl, e, Option.bind_some, if_pos rfl, wrap_succ (by omega)]
        rfl
      · rw [place_out hl] at e
        rw [if_neg (by omega), e, Option.bind_some, if_pos rfl, wrap_succ (by omega)]
        simp only [burn]
        rw [place_out hl]
    · intro _
      obtain ⟨K, h⟩ := after_ev hV s (burn_st hV ha hp m) (hp m)
      refine Ev.late K (fun k hk => ?_)
      have e := h k hk
      simp only at e
      have hd : decide (bN R (burn R a p m).1 (burn R a p m).2 (p.getD m (-1)) ≠ (burn R a p m).1) = false := decide_eq_false (fun h => h hm)
      rw [hd] at e
      simp only [impl_Graph_burned.l0]
      by_cases hl : m < p.length
      · rw [if_pos (by omega), if_pos (by omega), rd_place hl, e, Option.bind_some, if_neg Bool.false_ne_true]
      · rw [place_out hl] at e
        rw [if_neg (by omega), e, Option.bind_some, if_neg Bool.false_ne_true]
  refine Ev.late_eq 0 (fun k _ => ?_) hL
  unfold impl_Graph_burned.f
  rw [impl_bit_f (by omega), Option.bind_some]
  rfl

/-! ### the reference's fire -/
theorem burn_step {n : Nat} {R : Nat → Nat} (hV : V n R) (s : Int) {B H c : Nat} (hs : St n B H) {x : Int} (hx : x < n) {p : List Int} {i : Nat} (hi : i < 8 + p.length) (hp8 : p.length ≤ 8) (hc : c ≤ 100) (hxp : x = p.getD i (-1)) :
    ∃ K, ∀ k, K ≤ k → spec_l12Burn.l0 (k + 2) p (B : Int) (H : Int) (c : Int) (i : Int) s (rows n R) = spec_l12Burn.l0 k p ((bN R B H x : Nat) : Int) ((hN B H x : Nat) : Int) (((if bN R B H x = B then c else c + 1) : Nat) : Int) ((i + 1 : Nat) : Int) s (rows n R) := by
  have hn := hV.le
  obtain ⟨K, h⟩ := near_spec_ev hV s hs.b
  refine ⟨K, fun k hk => ?_⟩
  have e := h k (by omega)
  simp only at e
  have hfin : ∀ H2 : Nat, H2 < 2 ^ n → H2 = hN B H x → (if Go.bits .andNot .i64 ((near R B : Nat) : Int) (H2 : Int) = (B : Int) then spec_l12Burn.l0 k p (Go.bits .andNot .i64 ((near R B : Nat) : Int) (H2 : Int)) (H2 : Int) (c : Int) (wrap64 ((i : Int) + 1)) s (rows n R) else spec_l12Burn.l0 k p (Go.bits .andNot .i64 ((near R B : Nat) : Int) (H2 : Int)) (H2 : Int) (wrap64 ((c : Int) + 1)) (wrap64 ((i : Int) + 1)) s (rows n R)) = spec_l12Burn.l0 k p ((bN R B H x : Nat) : Int) ((hN B H x : Nat) : Int) (((if bN R B H x = B then c else c + 1) : Nat) : Int) ((i + 1 : Nat) : Int) s (rows n R) := by
    intro H2 hlt hH2
    rw [andNot_nat (lt62 hn (near_lt hV hs.b)) (lt62 hn hlt), wrap_succ (by omega), wrap_succ (by omega)]
    have eb : bN R B H x = sd (near R B) H2 := by unfold bN; rw [hH2]
    rw [eb, ← hH2]
    by_cases hq : sd (near R B) H2 = B
    · rw [if_pos (by omega), if_pos hq]
    · rw [if_neg (by omega), if_neg hq]
  have hf : x < 0 ∨ (0 ≤ x ∧ B.testBit x.toNat = true) → spec_l12Burn.j1 (k + 1) p (B : Int) (H : Int) (c : Int) (i : Int) false s (rows n R) = spec_l12Burn.l0 k p ((bN R B H x : Nat) : Int) ((hN B H x : Nat) : Int) (((if bN R B H x = B then c else c + 1) : Nat) : Int) ((i + 1 : Nat) : Int) s (rows n R) := by
    intro hq
    have e1 : H = hN B H x := by
      unfold hN
      rw [if_neg]
      rintro ⟨h1, h2⟩
      rcases hq with h3 | h3
      · omega
      · rw [h2] at h3; exact absurd h3.2 (by decide)
    simp only [spec_l12Burn.j1]
    rw [if_neg (by decide), e, Option.bind_some]
    exact hfin H hs.h e1
  rw [spec_l12Burn.l0, wrap_small (by omega) (by omega), if_pos (by omega)]
  by_cases hl : i < p.length
  · rw [if_pos (by omega), if_pos (by omega), rd_place hl, ← hxp]
    by_cases h0 : x ≥ 0
    · rw [if_pos h0]
      obtain ⟨v, rfl⟩ : ∃ v : Nat, x = (v : Int) := ⟨x.toNat, by omega⟩
      have hv : v < n := by omega
      rw [spec_has_f (lt62 hn hs.b) (by omega), Option.bind_some]
      by_cases hb : B.testBit v = true
      · rw [hb]
        exact hf (.inr ⟨by omega, by rw [Int.toNat_natCast]; exact hb⟩)
      · have hb' : B.testBit v = false := by simpa using hb
        have e1 : H ||| 2 ^ v = hN B H (v : Int) := by unfold hN; rw [Int.toNat_natCast, if_pos ⟨by omega, hb'⟩]
        have hlt := hN_lt hs hx
        rw [← e1] at hlt
        rw [hb']
        simp only [spec_l12Burn.j1, Bool.not_false]
        rw [if_pos trivial, if_pos (by omega), if_pos (by omega), rd_place hl, ← hxp, if_pos (by omega), e, Option.bind_some, shl1 (by omega), or_nat (lt62 hn hs.h) (lt62 hn (bit_lt hv))]
        exact hfin (H ||| 2 ^ v) hlt e1
    · rw [if_neg h0]
      exact hf (.inl (by omega))
  · rw [if_neg (by omega)]
    rw [place_out hl] at hxp
    exact hf (.inl (by omega))
theorem burned_spec {n : Nat} {R : Nat → Nat} (hV : V n R) {a : Nat} (ha : a < n) {p : List Int} (hp8 : p.length ≤ 8) (hp : ∀ i, p.getD i (-1) < n) {m : Nat} (hm8 : m ≤ 8) (hm : (burn R a p (m + 1)).1 = (burn R a p m).1) (hmin : ∀ i, i < m → (burn R a p (i + 1)).1 ≠ (burn R a p i).1) (s : Int) :
    Ev (fun k => spec_l12Burn.f k s (rows n R) (a : Int) p) (((burn R a p m).1 : Int), (m : Int)) := by
  have hn := hV.le
  have hL : Ev (fun k => spec_l12Burn.l0 k p ((burn R a p 0).1 : Int) ((burn R a p 0).2 : Int) ((min 0 m : Nat) : Int) ((0 : Nat) : Int) s (rows n R)) (((burn R a p m).1 : Int), (m : Int)) := by
    refine upto_ev (fun k i => spec_l12Burn.l0 k p ((burn R a p i).1 : Int) ((burn R a p i).2 : Int) ((min i m : Nat) : Int) (i : Int) s (rows n R)) (8 + p.length) (fun i => True) _ ?_ ?_ 0 (Nat.zero_le _) trivial
    · intro i hi _ ih
      obtain ⟨K, h⟩ := burn_step hV s (c := min i m) (burn_st hV ha hp i) (hp i) hi hp8 (by omega) rfl
      obtain ⟨K2, h2⟩ := ih trivial
      refine ⟨K + K2 + 2, fun k hk => ?_⟩
      obtain ⟨k, rfl⟩ : ∃ m, k = m + 2 := ⟨k - 2, by omega⟩
      have e2 := h2 k (by omega)
      simp only at e2 ⊢
      rw [h k (by omega), ← e2]
      have hc : (if bN R (burn R a p i).1 (burn R a p i).2 (p.getD i (-1)) = (burn R a p i).1 then min i m else min i m + 1) = min (i + 1) m := by
        change (if (burn R a p (i + 1)).1 = (burn R a p i).1 then min i m else min i m + 1) = min (i + 1) m
        by_cases h3 : i < m
        · rw [if_neg (hmin i h3)]; omega
        · have h4 := (burn_stays hV ha hp hm (i - m)).1
          have h5 := (burn_stays hV ha hp hm (i + 1 - m)).1
          rw [show m + (i - m) = i by omega] at h4
          rw [show m + (i + 1 - m) = i + 1 by omega] at h5
          have h6 : (burn R a p (i + 1)).1 = (burn R a p i).1 := by rw [h4, h5]
          rw [if_pos h6]; omega
      rw [hc]
      rfl
    · intro _
      have h5 := (burn_stays hV ha hp hm (8 + p.length - m)).1
      rw [show m + (8 + p.length - m) = 8 + p.length by omega] at h5
      rw [h5, show min (8 + p.length) m = m by omega]
      refine Ev.one fun k => ?_
      rw [spec_l12Burn.l0, wrap_small (by omega) (by omega), if_neg (by omega)]
  refine Ev.late_eq 0 (fun k _ => ?_) hL
  unfold spec_l12Burn.f
  rw [if_pos (by omega), shl1 (by omega)]
  simp [burn]

/-! ### both, under a fire in order -/
theorem fire_cases (s : Int) (l : List Int) (a : Int) (p : List Int) : fireB s l a p = false ∨ ∃ n R, ∃ v : Nat, V n R ∧ s = (n : Int) ∧ l = rows n R ∧ a = (v : Int) ∧ v < n ∧ p.length ≤ 8 ∧ (∀ i, p.getD i (-1) < n) ∧ fireB s l a p = true := by
  cases hf : fireB s l a p with
  | false => exact .inl rfl
  | true =>
    right
    have hf2 := hf
    unfold fireB at hf2
    simp only [Bool.and_eq_true, decide_eq_true_eq] at hf2
    obtain ⟨⟨h1, h2⟩, h3, h4⟩ := hf2
    rcases gB_cases s l with ⟨hb, _⟩ | ⟨n, R, hV, rfl, rfl, _⟩
    · rw [hb] at h1; cases h1
    · have h2' : 0 ≤ a ∧ a < n := by simpa [vx] using h2
      refine ⟨n, R, a.toNat, hV, rfl, rfl, by omega, by omega, h3, fun i => ?_, rfl⟩
      by_cases hi : i < p.length
      · have := List.all_eq_true.1 h4 _ (List.getElem_mem hi)
        have e : p.getD i (-1) = p[i] := by simp [List.getD_eq_getElem?_getD, hi]
        rw [e]
        simp only [vx, Bool.or_eq_true, decide_eq_true_eq] at this
        omega
      · rw [place_out hi]; omega
theorem fire_both (s : Int) (l : List Int) (a : Int) (p : List Int) (hf : fireB s l a p = true) : ∃ r, Ev (fun k => impl_Graph_burned.f k s l a p) r ∧ Ev (fun k => spec_l12Burn.f k s l a p) r := by
  rcases fire_cases s l a p with h | ⟨n, R, v, hV, rfl, rfl, rfl, hv, hp8, hp, _⟩
  · rw [h] at hf; cases hf
  · obtain ⟨m, hm8, hm, hmin⟩ := burn_ends hV hv hp
    exact ⟨_, burned_impl hV hv hp hm8 hm hmin _, burned_spec hV hv hp8 hp hm8 hm hmin _⟩
end Go.Proofs.Ytakgeblhdckccaa.P
