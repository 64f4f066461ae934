/- A best order of the vertices by a table over all sets: what the program's table and order come to, for any price of a step. -/
import Derived.Test.YtakgeblhdckccaaGNJ
import Derived.Test.YtakgeblhdckccaaQj2
namespace Go.Proofs.Ytakgeblhdckccaa.P
open Go.RowKit Go.Proofs.YtakgeblhdckccaaW.PrintWords Go.Proofs.YtakgeblhdckccaaW.PrintLast Go.Proofs.YtakgeblhdckccaaW.PrintMore Go.Proofs.Ytakgeblhdckccaa.Q
set_option linter.unusedVariables false

/-! ### what holds from some round on -/
def EvP (p : Nat → Prop) : Prop := ∃ K, ∀ k, K ≤ k → p k
theorem EvP.late_step {p q : Nat → Prop} (K : Nat) (h : ∀ k, K ≤ k → q k → p (k + 1)) (hq : EvP q) : EvP p := by
  obtain ⟨K', hq⟩ := hq
  exact ⟨max K K' + 1, fun k hk => by obtain ⟨m, rfl⟩ : ∃ m, k = m + 1 := ⟨k - 1, by omega⟩; exact h m (by omega) (hq m (by omega))⟩
theorem EvP.imp {p q : Nat → Prop} (h : ∀ k, q k → p k) (hq : EvP q) : EvP p := by
  obtain ⟨K, hq⟩ := hq
  exact ⟨K, fun k hk => h k (hq k hk)⟩
theorem EvP.one {p : Nat → Prop} (h : ∀ k, p (k + 1)) : EvP p := ⟨1, fun k hk => by obtain ⟨m, rfl⟩ : ∃ m, k = m + 1 := ⟨k - 1, by omega⟩; exact h m⟩
theorem meas_evP {τ : Type} (L : Nat → τ → Prop) (m : τ → Nat) (inv : τ → Prop)
    (hs : ∀ t, inv t → (∀ t', inv t' → m t' < m t → EvP (fun k => L k t')) → EvP (fun k => L k t)) : ∀ t, inv t → EvP (fun k => L k t) := by
  have go : ∀ d t, m t ≤ d → inv t → EvP (fun k => L k t) := by
    intro d
    induction d with
    | zero => exact fun t hd hi => hs t hi (fun t' _ hm => absurd hm (by omega))
    | succ d ih => exact fun t hd hi => hs t hi (fun t' hi' hm => ih t' (by omega) hi')
  intro t hi
  exact go (m t) t (Nat.le_refl _) hi
theorem up_evP {σ : Type} (L : Nat → Nat → σ → Prop) (n : Nat) (inv : Nat → σ → Prop)
    (hs : ∀ i s, i < n → inv i s → (∀ s', inv (i + 1) s' → EvP (fun k => L k (i + 1) s')) → EvP (fun k => L k i s))
    (he : ∀ s, inv n s → EvP (fun k => L k n s)) (i : Nat) (s : σ) (hi : i ≤ n) (h : inv i s) : EvP (fun k => L k i s) := by
  refine meas_evP (τ := Nat × σ) (fun k t => L k t.1 t.2) (fun t => n - t.1) (fun t => t.1 ≤ n ∧ inv t.1 t.2) ?_ (i, s) ⟨hi, h⟩
  rintro ⟨i, s⟩ ⟨hi, h⟩ ih
  by_cases hn : i = n
  · subst hn
    exact he s h
  · exact hs i s (by simp only at hi; omega) h (fun s' h' => ih (i + 1, s') ⟨by simp only at hi ⊢; omega, h'⟩ (by simp only at hi ⊢; omega))

/-! ### the best order, as a number -/
theorem grows {S v : Nat} (h : S.testBit v = false) : S < S ||| 2 ^ v := by
  have h1 : S ≤ S ||| 2 ^ v := Nat.left_le_or
  have h2 : S ≠ S ||| 2 ^ v := by
    intro e
    have := congrArg (fun x => x.testBit v) e
    simp [h] at this
  omega
theorem or_self {S v : Nat} (h : S.testBit v = true) : S ||| 2 ^ v = S := by
  apply set_ext
  intro i
  rw [Nat.testBit_or, bit_eq]
  by_cases e : v = i
  · subst e; simp [h]
  · simp [e]
/-- One row of the table, begun with init. -/
def row (n : Nat) (c : Nat → Nat → Nat) (f : Nat → Nat) (S m : Nat) (init : Nat) : Nat := (List.range m).foldl (fun x v => if S.testBit v then x else min x (max (c S v) (f (S ||| 2 ^ v)))) init
/-- The best price from S on. -/
def W (n : Nat) (c : Nat → Nat → Nat) (S : Nat) : Nat :=
  if S < 2 ^ n - 1 then (List.range n).foldl (fun x v => if h : S < S ||| 2 ^ v then min x (max (c S v) (W n c (S ||| 2 ^ v))) else x) 1000 else 0
termination_by 2 ^ n - 1 - S
theorem W_eq (n : Nat) (c : Nat → Nat → Nat) (S : Nat) : W n c S = if S < 2 ^ n - 1 then row n c (W n c) S n 1000 else 0 := by
  rw [W]
  congr 1
  unfold row
  congr 1
  funext x v
  by_cases h : S.testBit v = true
  · rw [if_pos h, dif_neg (by rw [or_self h]; omega)]
  · rw [if_neg h, dif_pos (grows (by simpa using h))]
theorem row_succ (n : Nat) (c : Nat → Nat → Nat) (f : Nat → Nat) (S m init : Nat) : row n c f S (m + 1) init = if S.testBit m then row n c f S m init else min (row n c f S m init) (max (c S m) (f (S ||| 2 ^ m))) := by
  unfold row
  rw [List.range_succ, List.foldl_append]
  rfl
theorem not_full {n S : Nat} (h : S < 2 ^ n - 1) : ∃ v, v < n ∧ S.testBit v = false := by
  apply Classical.byContradiction
  intro hc
  have : S = 2 ^ n - 1 := by
    apply set_ext
    intro i
    rw [all_bit]
    by_cases hi : i < n
    · rw [decide_eq_true hi]
      cases hb : S.testBit i with
      | true => rfl
      | false => exact absurd ⟨i, hi, hb⟩ hc
    · rw [decide_eq_false hi, lt_iff_bits.1 (show S < 2 ^ n by omega) i (by omega)]
  omega
/-- A row is the least of its steps. -/
theorem row_le (n : Nat) (c : Nat → Nat → Nat) (f : Nat → Nat) (S m init : Nat) {v : Nat} (hv : v < m) (hb : S.testBit v = false) : row n c f S m init ≤ max (c S v) (f (S ||| 2 ^ v)) := by
  induction m with
  | zero => omega
  | succ m ih =>
    rw [row_succ]
    by_cases e : v = m
    · subst e
      rw [hb, if_neg (by decide)]
      exact Nat.min_le_right _ _
    · have := ih (by omega)
      split
      · exact this
      · exact Nat.le_trans (Nat.min_le_left _ _) this
theorem row_some (n : Nat) (c : Nat → Nat → Nat) (f : Nat → Nat) (S m init : Nat) : row n c f S m init = init ∨ ∃ v, v < m ∧ S.testBit v = false ∧ row n c f S m init = max (c S v) (f (S ||| 2 ^ v)) := by
  induction m with
  | zero => exact .inl rfl
  | succ m ih =>
    rw [row_succ]
    by_cases hb : S.testBit m = true
    · rw [if_pos hb]
      rcases ih with h | ⟨v, h1, h2, h3⟩
      · exact .inl h
      · exact .inr ⟨v, by omega, h2, h3⟩
    · rw [if_neg hb]
      have hb' : S.testBit m = false := by simpa using hb
      rcases Nat.le_total (row n c f S m init) (max (c S m) (f (S ||| 2 ^ m))) with h | h
      · rw [Nat.min_eq_left h]
        rcases ih with h | ⟨v, h1, h2, h3⟩
        · exact .inl h
        · exact .inr ⟨v, by omega, h2, h3⟩
      · rw [Nat.min_eq_right h]
        exact .inr ⟨m, by omega, hb', rfl⟩
/-- The price's bound. -/
def Low (n : Nat) (c : Nat → Nat → Nat) : Prop := ∀ S v, S < 2 ^ n → v < n → S.testBit v = false → c S v ≤ 8
theorem W_le {n : Nat} {c : Nat → Nat → Nat} (hc : Low n c) : ∀ d S, S < 2 ^ n → 2 ^ n - 1 - S ≤ d → W n c S ≤ 8 := by
  intro d
  induction d with
  | zero =>
    intro S hS hd
    rw [W_eq, if_neg (by omega)]
    omega
  | succ d ih =>
    intro S hS hd
    rw [W_eq]
    by_cases h : S < 2 ^ n - 1
    · rw [if_pos h]
      obtain ⟨v, hv, hb⟩ := not_full h
      have h1 := row_le n c (W n c) S n 1000 hv hb
      have h2 := grows hb
      have h3 := hc S v hS hv hb
      have h4 := ih (S ||| 2 ^ v) (or_bit_lt hS hv) (by omega)
      omega
    · rw [if_neg h]; omega
theorem W_low {n : Nat} {c : Nat → Nat → Nat} (hc : Low n c) {S : Nat} (hS : S < 2 ^ n) : W n c S ≤ 8 := W_le hc _ S hS (Nat.le_refl _)
/-- A row begun with any number from eight on is the same. -/
theorem row_init {n : Nat} {c : Nat → Nat → Nat} (hc : Low n c) {S : Nat} (hS : S < 2 ^ n - 1) {a b : Nat} (ha : 8 ≤ a) (hb : 8 ≤ b) : row n c (W n c) S n a = row n c (W n c) S n b := by
  have go : ∀ m, m ≤ n → (row n c (W n c) S m a = row n c (W n c) S m b) ∨ (8 ≤ row n c (W n c) S m a ∧ 8 ≤ row n c (W n c) S m b ∧ ∀ v, v < m → S.testBit v = true) := by
    intro m
    induction m with
    | zero => exact fun _ => .inr ⟨ha, hb, fun v hv => by omega⟩
    | succ m ih =>
      intro hm
      rw [row_succ, row_succ]
      by_cases hb : S.testBit m = true
      · rw [if_pos hb, if_pos hb]
        rcases ih (by omega) with h | ⟨h1, h2, h3⟩
        · exact .inl h
        · refine .inr ⟨h1, h2, fun v hv => ?_⟩
          by_cases e : v = m
          · rw [e]; exact hb
          · exact h3 v (by omega)
      · rw [if_neg hb, if_neg hb]
        have hb' : S.testBit m = false := by simpa using hb
        left
        rcases ih (by omega) with h | ⟨h1, h2, h3⟩
        · rw [h]
        · have h4 := hc S m (by omega) (by omega) hb'
          have h5 := W_low hc (or_bit_lt (show S < 2 ^ n by omega) (show m < n by omega))
          omega
  rcases go n (Nat.le_refl _) with h | ⟨_, _, h⟩
  · exact h
  · obtain ⟨v, hv, hb⟩ := not_full hS
    rw [h v hv] at hb
    cases hb
/-- The step that the program takes from S. -/
def stepAt (n : Nat) (c : Nat → Nat → Nat) (S v : Nat) : Bool := !S.testBit v && (decide (c S v ≤ W n c 0) && decide (W n c (S ||| 2 ^ v) ≤ W n c 0))
def ordr (n : Nat) (c : Nat → Nat → Nat) (S : Nat) : List Nat :=
  if S < 2 ^ n - 1 then match (List.range n).find? (stepAt n c S) with
    | some v => if h : S < S ||| 2 ^ v then v :: ordr n c (S ||| 2 ^ v) else []
    | none => []
  else []
termination_by 2 ^ n - 1 - S
theorem step_ex {n : Nat} {c : Nat → Nat → Nat} (hc : Low n c) {S : Nat} (hS : S < 2 ^ n - 1) (hW : W n c S ≤ W n c 0) : ∃ v, v < n ∧ stepAt n c S v = true ∧ ∀ u, u < v → stepAt n c S u = false := by
  have h0 : ∃ v, v < n ∧ stepAt n c S v = true := by
    have h1 := W_eq n c S
    rw [if_pos hS] at h1
    rcases row_some n c (W n c) S n 1000 with h | ⟨v, hv, hb, h⟩
    · have := W_low hc (show S < 2 ^ n by omega)
      omega
    · refine ⟨v, hv, ?_⟩
      unfold stepAt
      rw [hb, decide_eq_true (by omega), decide_eq_true (by omega)]
      rfl
  obtain ⟨v, hv, hs⟩ := h0
  have go : ∀ m, (∃ v, v < m ∧ stepAt n c S v = true ∧ ∀ u, u < v → stepAt n c S u = false) ∨ ∀ u, u < m → stepAt n c S u = false := by
    intro m
    induction m with
    | zero => exact .inr fun u hu => by omega
    | succ m ih =>
      rcases ih with ⟨v, h1, h2, h3⟩ | h
      · exact .inl ⟨v, by omega, h2, h3⟩
      · cases hm : stepAt n c S m with
        | true => exact .inl ⟨m, by omega, hm, h⟩
        | false =>
          refine .inr fun u hu => ?_
          by_cases e : u = m
          · rw [e]; exact hm
          · exact h u (by omega)
  rcases go n with h | h
  · exact h
  · rw [h v hv] at hs; cases hs
theorem find_first {n : Nat} {p : Nat → Bool} {v : Nat} (hv : v < n) (hp : p v = true) (hm : ∀ u, u < v → p u = false) : (List.range n).find? p = some v := by
  rw [List.find?_range_eq_some]
  exact ⟨hp, List.mem_range.2 hv, fun j hj => by rw [hm j hj]; rfl⟩
theorem ordr_step {n : Nat} {c : Nat → Nat → Nat} {S v : Nat} (hS : S < 2 ^ n - 1) (hv : v < n) (hp : stepAt n c S v = true) (hm : ∀ u, u < v → stepAt n c S u = false) : ordr n c S = v :: ordr n c (S ||| 2 ^ v) := by
  rw [ordr, if_pos hS, find_first hv hp hm]
  have hb : S.testBit v = false := by
    unfold stepAt at hp
    cases h : S.testBit v with
    | false => rfl
    | true => rw [h] at hp; simp at hp
  simp only
  rw [dif_pos (grows hb)]
theorem ordr_end {n : Nat} {c : Nat → Nat → Nat} {S : Nat} (hS : ¬ S < 2 ^ n - 1) : ordr n c S = [] := by rw [ordr, if_neg hS]

/-! ### the program's table -/
theorem mn_nat (a b : Nat) : mn (a : Int) (b : Int) = ((min a b : Nat) : Int) := by unfold mn; split <;> omega
theorem mx_nat (a b : Nat) : mx (a : Int) (b : Int) = ((max a b : Nat) : Int) := by unfold mx; split <;> omega
/-- The table is right from the set D on. -/
structure Tab (n : Nat) (c : Nat → Nat → Nat) (t : List Int) (D : Nat) : Prop where
  len : t.length = 2 ^ n
  val : ∀ S, D ≤ S → S < 2 ^ n → rd t (S : Int) = ((W n c S : Nat) : Int)
/-- The price that the program is given. -/
def Pays (n : Nat) (c : Nat → Nat → Nat) (P : Int → Int → Option Int) : Prop := ∀ S v : Nat, S < 2 ^ n → v < n → S.testBit v = false → P (S : Int) (v : Int) = some ((c S v : Nat) : Int)
theorem rd_set_same {t : List Int} {i : Nat} {x : Int} (h : i < t.length) : rd (t.set i x) (i : Int) = x := by
  rw [rd_nat]; simp [List.getD_eq_getElem?_getD, h]
theorem rd_set_ne {t : List Int} {i j : Nat} {x : Int} (h : i ≠ j) : rd (t.set i x) (j : Int) = rd t (j : Int) := by
  rw [rd_nat, rd_nat]; simp [List.getD_eq_getElem?_getD, List.getElem?_set_ne h]
theorem rd_ordr {x : Int} {S : Nat} : True := trivial
section
variable {n : Nat} {c : Nat → Nat → Nat} {l : List Int} {r : Int × List Int}
/-- The row of S, from its place m on. -/
theorem order_row (hn : 1 ≤ n) (h8 : n ≤ 8) {S : Nat} (hS : S < 2 ^ n - 1)
    (next : ∀ t, Tab n c t S → EvP (fun k => ∀ P, Pays n c P → impl_Graph_bestOrder.l0 k P t ((S : Int) - 1) (n : Int) l = some r)) (t : List Int) (ht : t.length = 2 ^ n) (hv : ∀ T, S < T → T < 2 ^ n → rd t (T : Int) = ((W n c T : Nat) : Int)) (h0 : rd t (S : Int) = 1000) :
    EvP (fun k => ∀ P, Pays n c P → impl_Graph_bestOrder.l1 k P t (S : Int) (n : Int) 0 (n : Int) l = some r) := by
  have h256 := pow_le_256 h8
  refine up_evP (fun k m t => ∀ P, Pays n c P → impl_Graph_bestOrder.l1 k P t (S : Int) (n : Int) (m : Int) (n : Int) l = some r) n (fun m t => t.length = 2 ^ n ∧ (∀ T, S < T → T < 2 ^ n → rd t (T : Int) = ((W n c T : Nat) : Int)) ∧ rd t (S : Int) = ((row n c (W n c) S m 1000 : Nat) : Int)) ?_ ?_ 0 t (Nat.zero_le _) ⟨ht, hv, h0⟩
  · intro m t hm ⟨ht, hv, hx⟩ ih
    by_cases hb : S.testBit m = true
    · refine EvP.late_step 0 (fun k _ h P hP => ?_) (ih t ⟨ht, hv, by rw [row_succ, if_pos hb]; exact hx⟩)
      rw [impl_Graph_bestOrder.l1, if_pos (by omega), impl_has_f (by omega) (by omega), Option.bind_some, if_pos hb, wrap_succ (by omega)]
      exact h P hP
    · have hb' : S.testBit m = false := by simpa using hb
      have hg := grows hb'
      have hl := or_bit_lt (n := n) (S := S) (v := m) (by omega) hm
      refine EvP.late_step 0 (fun k _ h P hP => ?_) (ih (t.set S ((row n c (W n c) S (m + 1) 1000 : Nat) : Int)) ⟨by simp [ht], fun T h1 h2 => ?_, rd_set_same (by omega)⟩)
      · rw [impl_Graph_bestOrder.l1, if_pos (by omega), impl_has_f (by omega) (by omega), Option.bind_some, if_neg hb, if_pos (by omega), if_pos (by omega), hP S m (by omega) hm hb', Option.bind_some, impl_bit_f (by omega), Option.bind_some, or_nat (by omega) (lt62 h8 (bit_lt hm)), if_pos (by omega), if_pos (by omega), hx, hv _ hg hl, mx_nat, mn_nat, wrap_succ (by omega), Int.toNat_natCast]
        have := h P hP
        rw [row_succ, if_neg hb] at this
        exact this
      · rw [rd_set_ne (by omega)]
        exact hv T h1 h2
  · intro t ⟨ht, hv, hx⟩
    have hT : Tab n c t S := by
      refine ⟨ht, fun T h1 h2 => ?_⟩
      by_cases e : T = S
      · subst e
        rw [hx, W_eq, if_pos hS]
      · exact hv T (by omega) h2
    refine EvP.late_step 0 (fun k _ h P hP => ?_) (next t hT)
    rw [impl_Graph_bestOrder.l1, if_neg (by omega), wrap_small (by omega) (by omega)]
    exact h P hP
/-- The walk through the finished table. -/
theorem order_walk (hc : Low n c) (hn : 1 ≤ n) (h8 : n ≤ 8) {t : List Int} (ht : Tab n c t 0) :
    ∀ s : Nat × List Nat, (s.1 < 2 ^ n ∧ s.2.length ≤ s.1 ∧ W n c s.1 ≤ W n c 0 ∧ s.2 ++ ordr n c s.1 = ordr n c 0) → EvP (fun k => ∀ P, Pays n c P → impl_Graph_bestOrder.l2 k P t (ints s.2) (s.1 : Int) (n : Int) l = some (((W n c 0 : Nat) : Int), ints (ordr n c 0))) := by
  have h256 := pow_le_256 h8
  have hpos := Nat.two_pow_pos n
  refine meas_evP (τ := Nat × List Nat) (fun k s => ∀ P, Pays n c P → impl_Graph_bestOrder.l2 k P t (ints s.2) (s.1 : Int) (n : Int) l = some (((W n c 0 : Nat) : Int), ints (ordr n c 0))) (fun s => 2 ^ n - 1 - s.1) (fun s => s.1 < 2 ^ n ∧ s.2.length ≤ s.1 ∧ W n c s.1 ≤ W n c 0 ∧ s.2 ++ ordr n c s.1 = ordr n c 0) ?_
  rintro ⟨S, xs⟩ ⟨hS, hlen, hW, hord⟩ ih
  simp only at hS hlen hW hord ih ⊢
  have ht0 : rd t 0 = ((W n c 0 : Nat) : Int) := ht.val 0 (Nat.le_refl _) hpos
  by_cases hall : S < 2 ^ n - 1
  · obtain ⟨v, hv, hp, hm⟩ := step_ex hc hall hW
    have hp2 := hp
    unfold stepAt at hp2
    simp only [Bool.and_eq_true, Bool.not_eq_true', decide_eq_true_eq] at hp2
    obtain ⟨hb, hcv, hWv⟩ := hp2
    have hg := grows hb
    have hl := or_bit_lt hS hv
    have hnext := ih (S ||| 2 ^ v, xs ++ [v]) ⟨hl, by simp only [List.length_append, List.length_singleton]; omega, hWv, by simp only [List.append_assoc, List.singleton_append]; rw [← ordr_step hall hv hp hm]; exact hord⟩ (by simp only; omega)
    simp only at hnext
    have hL : EvP (fun k => ∀ P, Pays n c P → impl_Graph_bestOrder.l3 k P t (ints xs) (S : Int) (n : Int) ((0 : Nat) : Int) (n : Int) l = some (((W n c 0 : Nat) : Int), ints (ordr n c 0))) := by
      refine up_evP (σ := Unit) (fun k m _ => ∀ P, Pays n c P → impl_Graph_bestOrder.l3 k P t (ints xs) (S : Int) (n : Int) (m : Int) (n : Int) l = some (((W n c 0 : Nat) : Int), ints (ordr n c 0))) v (fun _ _ => True) ?_ ?_ 0 () (Nat.zero_le _) trivial
      · intro m _ hmv _ ih2
        have hs := hm m hmv
        refine EvP.late_step 0 (fun k _ h P hP => ?_) (ih2 () trivial)
        rw [impl_Graph_bestOrder.l3, if_pos (by omega), impl_has_f (by omega) (by omega), Option.bind_some]
        by_cases hbm : S.testBit m = true
        · rw [if_pos hbm, wrap_succ (by omega)]
          exact h P hP
        · have hbm' : S.testBit m = false := by simpa using hbm
          have hlm := or_bit_lt (n := n) (S := S) (v := m) hS (by omega)
          rw [if_neg hbm, hP S m hS (by omega) hbm', Option.bind_some, if_pos (by rw [ht.len]; omega), ht0]
          by_cases h1 : c S m ≤ W n c 0
          · rw [if_pos (by omega), impl_bit_f (by omega), Option.bind_some, or_nat (by omega) (lt62 h8 (bit_lt (show m < n by omega))), if_pos (by omega), if_pos (by rw [ht.len]; omega), ht.val _ (Nat.zero_le _) hlm]
            have h2 : ¬ W n c (S ||| 2 ^ m) ≤ W n c 0 := by
              intro h2
              unfold stepAt at hs
              rw [hbm', decide_eq_true h1, decide_eq_true h2] at hs
              cases hs
            rw [if_neg (by omega), wrap_succ (by omega)]
            exact h P hP
          · rw [if_neg (by omega), wrap_succ (by omega)]
            exact h P hP
      · intro _ _
        refine EvP.late_step 0 (fun k _ h P hP => ?_) hnext
        rw [impl_Graph_bestOrder.l3, if_pos (by omega), impl_has_f (by omega) (by omega), Option.bind_some, if_neg (by rw [hb]; decide), hP S v hS hv hb, Option.bind_some, if_pos (by rw [ht.len]; omega), ht0, if_pos (by omega), impl_bit_f (by omega), Option.bind_some, or_nat (by omega) (lt62 h8 (bit_lt hv)), if_pos (by omega), if_pos (by rw [ht.len]; omega), ht.val _ (Nat.zero_le _) hl, if_pos (by omega), if_pos (by rw [ints_len]; omega), Option.bind_some, or_nat (by omega) (lt62 h8 (bit_lt hv))]
        have := h P hP
        rw [ints_app] at this
        exact this
    refine EvP.late_step 0 (fun k _ h P hP => ?_) hL
    rw [impl_Graph_bestOrder.l2, impl_all_f (by omega), Option.bind_some, if_neg (by omega)]
    exact h P hP
  · refine EvP.one fun k P hP => ?_
    rw [ordr_end hall, List.append_nil] at hord
    rw [impl_Graph_bestOrder.l2, impl_all_f (by omega), Option.bind_some, if_pos (by omega), if_pos (by rw [ht.len]; omega), ← hord, ht0]
theorem order_table (hc : Low n c) (hn : 1 ≤ n) (h8 : n ≤ 8) :
    ∀ d, d ≤ 2 ^ n - 1 → ∀ t, Tab n c t d → EvP (fun k => ∀ P, Pays n c P → impl_Graph_bestOrder.l0 k P t ((d : Int) - 1) (n : Int) l = some (((W n c 0 : Nat) : Int), ints (ordr n c 0))) := by
  have h256 := pow_le_256 h8
  intro d
  induction d with
  | zero =>
    intro _ t ht
    refine EvP.late_step 0 (fun k _ h P hP => ?_) (order_walk (l := l) hc hn h8 ht (0, []) ⟨Nat.two_pow_pos n, Nat.le_refl _, Nat.le_refl _, rfl⟩)
    rw [impl_Graph_bestOrder.l0, if_neg (by omega)]
    exact h P hP
  | succ d ih =>
    intro hd t ht
    have hlt := ht.len
    refine EvP.late_step 0 (fun k _ h P hP => ?_) (order_row (l := l) hn h8 (S := d) (by omega) (fun t ht => ih (by omega) t ht) (t.set d 1000) (by simp [ht.len]) (fun T h1 h2 => by rw [rd_set_ne (by omega)]; exact ht.val T (by omega) h2) (rd_set_same (by omega)))
    rw [impl_Graph_bestOrder.l0, if_pos (by omega), if_pos (by omega), if_pos (by omega)]
    rw [show (((d + 1 : Nat) : Int) - 1) = (d : Int) by omega, Int.toNat_natCast]
    exact h P hP
/-- The program's best order: its price and the order. -/
theorem bestOrder_ev (hc : Low n c) (hn : 1 ≤ n) (h8 : n ≤ 8) : EvP (fun k => ∀ P, Pays n c P → impl_Graph_bestOrder.f k (n : Int) l P = some (((W n c 0 : Nat) : Int), ints (ordr n c 0))) := by
  have h256 := pow_le_256 h8
  have hp2 : 2 ≤ 2 ^ n := by
    have := Nat.pow_le_pow_right (show 0 < 2 by decide) hn
    omega
  have hT : Tab n c (List.replicate (2 ^ n) 0) (2 ^ n - 1) := by
    refine ⟨by simp, fun S h1 h2 => ?_⟩
    rw [W_eq, if_neg (by omega), rd_nat]
    simp [List.getD_eq_getElem?_getD, h2]
  refine EvP.imp (fun k h P hP => ?_) (order_table (l := l) hc hn h8 (2 ^ n - 1) (Nat.le_refl _) _ hT)
  unfold impl_Graph_bestOrder.f
  rw [impl_all_f (by omega), Option.bind_some, wrap_small (by omega) (by omega), if_pos (by omega), if_pos (by omega), Option.bind_some, wrap_small (by omega) (by omega)]
  have := h P hP
  rw [show (((2 ^ n - 1 : Nat) : Int) + 1).toNat = 2 ^ n by omega]
  exact this
end
end Go.Proofs.Ytakgeblhdckccaa.P
