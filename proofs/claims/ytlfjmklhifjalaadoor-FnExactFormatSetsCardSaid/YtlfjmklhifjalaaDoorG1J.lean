/- The graph as natural numbers; what GraphOk answers, in the program and in the reference. -/
import Derived.Test.YtlfjmklhifjalaaDoorG0
import Derived.Test.YtlfjmklhifjalaaDoorQj1
namespace Go.Proofs.YtlfjmklhifjalaaDoor.P
open Go.RowKit Go.Proofs.YtlfjmklhifjalaaDoorW.PrintWords Go.Proofs.YtlfjmklhifjalaaDoorW.PrintLast Go.Proofs.YtlfjmklhifjalaaDoorW.PrintMore Go.Proofs.YtlfjmklhifjalaaDoor.Q
set_option linter.unusedVariables false

/-- A graph of n vertices with the neighbors R. -/
structure V (n : Nat) (R : Nat → Nat) : Prop where
  pos : 1 ≤ n
  le : n ≤ 8
  lt : ∀ v, v < n → R v < 2 ^ n
  irr : ∀ v, v < n → (R v).testBit v = false
  sym : ∀ v w, v < n → w < n → (R v).testBit w = (R w).testBit v
  out : ∀ v, n ≤ v → R v = 0
def rows (n : Nat) (R : Nat → Nat) : List Int := (List.range n).map fun v => (R v : Int)
theorem rows_len (n : Nat) (R : Nat → Nat) : (rows n R).length = n := by simp [rows]
theorem rd_rows {n : Nat} {R : Nat → Nat} (hV : V n R) (v : Nat) : rd (rows n R) (v : Int) = (R v : Int) := by
  rw [rd_nat]
  by_cases h : v < n
  · simp [rows, List.getD_eq_getElem?_getD, h]
  · rw [hV.out v (by omega)]
    simp [rows, List.getD_eq_getElem?_getD, h]
theorem V.lt' {n : Nat} {R : Nat → Nat} (hV : V n R) (v : Nat) : R v < 2 ^ n := by
  by_cases h : v < n
  · exact hV.lt v h
  · rw [hV.out v (by omega)]; exact Nat.two_pow_pos n
theorem V.lt256 {n : Nat} {R : Nat → Nat} (hV : V n R) (v : Nat) : R v < 256 := lt_256 hV.le (hV.lt' v)
theorem V.sym' {n : Nat} {R : Nat → Nat} (hV : V n R) (v w : Nat) : (R v).testBit w = (R w).testBit v := by
  by_cases h : v < n
  · by_cases h2 : w < n
    · exact hV.sym v w h h2
    · rw [hV.out w (by omega), lt_iff_bits.1 (hV.lt v h) w (by omega)]; simp
  · rw [hV.out v (by omega)]
    by_cases h2 : w < n
    · rw [lt_iff_bits.1 (hV.lt w h2) v (by omega)]; simp
    · rw [hV.out w (by omega)]; simp
theorem V.irr' {n : Nat} {R : Nat → Nat} (hV : V n R) (v : Nat) : (R v).testBit v = false := by
  by_cases h : v < n
  · exact hV.irr v h
  · rw [hV.out v (by omega)]; simp
/-- Are these a valid graph's cells? -/
def okG (s : Int) (l : List Int) : Prop := ∃ n R, V n R ∧ s = (n : Int) ∧ l = rows n R
noncomputable def gB (s : Int) (l : List Int) : Bool := @decide (okG s l) (Classical.propDecidable _)
theorem gB_rows {n : Nat} {R : Nat → Nat} (hV : V n R) : gB (n : Int) (rows n R) = true := by unfold gB; exact @decide_eq_true _ (Classical.propDecidable _) ⟨n, R, hV, rfl, rfl⟩
theorem gB_cases (s : Int) (l : List Int) : (gB s l = false ∧ ¬ okG s l) ∨ ∃ n R, V n R ∧ s = (n : Int) ∧ l = rows n R ∧ gB s l = true := by
  by_cases h : okG s l
  · obtain ⟨n, R, hV, rfl, rfl⟩ := h
    exact .inr ⟨n, R, hV, rfl, rfl, gB_rows hV⟩
  · exact .inl ⟨by unfold gB; exact @decide_eq_false _ (Classical.propDecidable _) h, h⟩

/-! ### small functions -/
theorem impl_in_f (x a b : Int) : impl_in.f x a b = some (decide (a ≤ x ∧ x ≤ b)) := by
  unfold impl_in.f
  by_cases h : a ≤ x
  · rw [if_pos h]; simp [h]
  · rw [if_neg h]; simp [h]
theorem spec_l01In_f (x a b : Int) : spec_l01In.f x a b = some (decide (a ≤ x ∧ x ≤ b)) := by
  unfold spec_l01In.f
  by_cases h : a ≤ x
  · rw [if_pos h]; simp [h]
  · rw [if_neg h]; simp [h]
theorem impl_bit_f {v : Nat} (hv : v ≤ 61) : impl_bit.f (v : Int) = some ((2 ^ v : Nat) : Int) := by
  unfold impl_bit.f
  rw [if_pos (by omega), shl1 hv]
theorem impl_all_f {n : Nat} (hn : n ≤ 61) (l : List Int) : impl_Graph_all.f (n : Int) l = some ((2 ^ n - 1 : Nat) : Int) := by
  unfold impl_Graph_all.f
  rw [impl_bit_f hn]
  simp only [Option.bind_some]
  have h1 : 0 < 2 ^ n := Nat.two_pow_pos n
  have h2 : (2 : Nat) ^ n ≤ 2 ^ 61 := Nat.pow_le_pow_right (by decide) hn
  generalize 2 ^ n = p at h1 h2
  rw [wrap_small (by omega) (by omega)]
  congr 1
  omega
theorem testBit_half (s v : Nat) : ((s / 2 ^ v) &&& 1 == 1) = s.testBit v := by
  rw [Nat.testBit_eq_decide_div_mod_eq, Nat.and_one_is_mod]
  rfl
theorem impl_has_f {s v : Nat} (hs : s < 2 ^ 62) (hv : v ≤ 61) : impl_has.f (s : Int) (v : Int) = some (s.testBit v) := by
  unfold impl_has.f
  have h1 : s / 2 ^ v < 2 ^ 62 := Nat.lt_of_le_of_lt (Nat.div_le_self _ _) hs
  rw [if_pos (by omega), shr_nat hv, show (1 : Int) = ((1 : Nat) : Int) from rfl, and_nat h1 (by decide), ← testBit_half]
  generalize s / 2 ^ v &&& 1 = x
  congr 1
  rw [Bool.eq_iff_iff]
  simp only [beq_iff_eq]
  omega
theorem spec_has_f {s v : Nat} (hs : s < 2 ^ 62) (hv : v ≤ 61) : spec_l02Has.f (s : Int) (v : Int) = some (s.testBit v) := by
  unfold spec_l02Has.f
  have h1 : 2 ^ v < 2 ^ 62 := Nat.pow_lt_pow_right (by decide) (by omega)
  rw [if_pos (by omega), shl1 hv, and_nat hs h1]
  congr 1
  by_cases h : s.testBit v = true
  · rw [h]
    have : s &&& 2 ^ v ≠ 0 := by
      intro e
      have := congrArg (fun x => x.testBit v) e
      simp [h] at this
    simp only [bne_iff_ne, ne_eq]
    omega
  · have h' : s.testBit v = false := by simpa using h
    rw [h']
    have : s &&& 2 ^ v = 0 := by
      apply set_ext
      intro i
      rw [Nat.testBit_and, bit_eq]
      by_cases e : v = i
      · subst e; simp [h']
      · simp [e]
    rw [this]
    rfl

/-! ### GraphOk -/
/-- The cells of the first i rows are sets without their own vertex. -/
def rowsOk (n : Nat) (l : List Int) (i : Nat) : Prop := ∀ j, j < i → 0 ≤ l.getD j 0 ∧ l.getD j 0 ≤ ((2 ^ n - 1 : Nat) : Int) ∧ (l.getD j 0).toNat.testBit j = false
theorem okG_len {s : Int} {l : List Int} (h : okG s l) : (l.length : Int) = s ∧ 1 ≤ s ∧ s ≤ 8 := by
  obtain ⟨n, R, hV, rfl, rfl⟩ := h
  have := hV.pos
  have := hV.le
  rw [rows_len]
  omega
theorem okG_row {n : Nat} {l : List Int} (h : okG (n : Int) l) {j : Nat} (hj : j < n) : 0 ≤ l.getD j 0 ∧ l.getD j 0 ≤ ((2 ^ n - 1 : Nat) : Int) ∧ (l.getD j 0).toNat.testBit j = false := by
  obtain ⟨m, R, hV, e, rfl⟩ := h
  obtain rfl : n = m := by omega
  rw [← rd_nat, rd_rows hV, Int.toNat_natCast]
  have h1 := hV.lt j hj
  have h2 := Nat.two_pow_pos n
  exact ⟨by omega, by omega, hV.irr j hj⟩
theorem okG_sym {n : Nat} {l : List Int} (h : okG (n : Int) l) {i j : Nat} (hi : i < n) (hj : j < n) : (l.getD i 0).toNat.testBit j = (l.getD j 0).toNat.testBit i := by
  obtain ⟨m, R, hV, e, rfl⟩ := h
  obtain rfl : n = m := by omega
  rw [← rd_nat, ← rd_nat, rd_rows hV, rd_rows hV, Int.toNat_natCast, Int.toNat_natCast]
  exact hV.sym i j hi hj
theorem okG_mk {n : Nat} {l : List Int} (h1 : 1 ≤ n) (h8 : n ≤ 8) (hl : l.length = n) (hr : rowsOk n l n) (hs : ∀ i j, i < n → j < n → (l.getD i 0).toNat.testBit j = (l.getD j 0).toNat.testBit i) : okG (n : Int) l := by
  refine ⟨n, fun v => (l.getD v 0).toNat, ⟨h1, h8, fun v hv => ?_, fun v hv => (hr v hv).2.2, fun v w hv hw => hs v w hv hw, fun v hv => ?_⟩, rfl, ?_⟩
  · have := hr v hv
    have h2 := Nat.two_pow_pos n
    omega
  · have : l[v]? = none := List.getElem?_eq_none (by omega)
    simp [List.getD_eq_getElem?_getD, this]
  · apply List.ext_getElem
    · rw [rows_len, hl]
    · intro i a b
      have hi : i < n := by omega
      have := hr i hi
      have e : l.getD i 0 = l[i] := by simp [List.getD_eq_getElem?_getD, a]
      rw [e] at this
      simp only [rows, List.getElem_map, List.getElem_range, e]
      omega
theorem gB_false {s : Int} {l : List Int} (h : ¬ okG s l) : gB s l = false := by unfold gB; exact @decide_eq_false _ (Classical.propDecidable _) h
theorem gB_true {s : Int} {l : List Int} (h : okG s l) : gB s l = true := by unfold gB; exact @decide_eq_true _ (Classical.propDecidable _) h

theorem natOf {x : Int} (h : 0 ≤ x) : x = (x.toNat : Int) := by omega
theorem small_pow {n : Nat} (h : n ≤ 8) : 2 ^ n ≤ 256 ∧ 0 < 2 ^ n := ⟨pow_le_256 h, Nat.two_pow_pos n⟩

theorem impl_GraphOk_ev (s : Int) (l : List Int) : Ev (fun k => impl_GraphOk.f k s l) (gB s l) := by
  by_cases hs : 1 ≤ s ∧ s ≤ 8
  case neg =>
    rw [gB_false (fun h => hs ⟨(okG_len h).2.1, (okG_len h).2.2⟩)]
    refine Ev.one fun k => ?_
    unfold impl_GraphOk.f
    rw [impl_in_f, decide_eq_false hs]
    simp [impl_GraphOk.j0]
  by_cases hl : (l.length : Int) = s
  case neg =>
    rw [gB_false (fun h => hl (okG_len h).1)]
    refine Ev.one fun k => ?_
    unfold impl_GraphOk.f
    rw [impl_in_f, decide_eq_true hs]
    simp [impl_GraphOk.j0, hl]
  obtain ⟨n, rfl⟩ : ∃ n : Nat, s = (n : Int) := ⟨s.toNat, by omega⟩
  have hn : l.length = n := by omega
  have h1 : 1 ≤ n := by omega
  have h8 : n ≤ 8 := by omega
  obtain ⟨hp, hp0⟩ := small_pow h8
  -- the second pair of loops
  have L1 : rowsOk n l n → ∀ i, i ≤ n → (∀ a b, a < i → b < n → (l.getD a 0).toNat.testBit b = (l.getD b 0).toNat.testBit a) → Ev (fun k => impl_GraphOk.l1 k l (n : Int) (i : Int) (n : Int) l) (gB (n : Int) l) := by
    intro hr i hi hinv
    refine upto_ev (fun k i => impl_GraphOk.l1 k l (n : Int) (i : Int) (n : Int) l) n (fun i => ∀ a b, a < i → b < n → (l.getD a 0).toNat.testBit b = (l.getD b 0).toNat.testBit a) _ ?_ ?_ i hi hinv
    · intro i hi hinv ih
      have L2 : ∀ j, j ≤ n → (∀ b, b < j → (l.getD i 0).toNat.testBit b = (l.getD b 0).toNat.testBit i) → Ev (fun k => impl_GraphOk.l2 k (i : Int) (rd l (i : Int)) l (n : Int) (i : Int) l (n : Int) (j : Int) (n : Int) l) (gB (n : Int) l) := by
        intro j hj hj2
        refine upto_ev (fun k j => impl_GraphOk.l2 k (i : Int) (rd l (i : Int)) l (n : Int) (i : Int) l (n : Int) (j : Int) (n : Int) l) n (fun j => ∀ b, b < j → (l.getD i 0).toNat.testBit b = (l.getD b 0).toNat.testBit i) _ ?_ ?_ j hj hj2
        · intro j hj hinv2 ih2
          have hri := hr i hi
          have hrj := hr j hj
          have e1 : impl_has.f (rd l (i : Int)) (j : Int) = some ((l.getD i 0).toNat.testBit j) := by rw [rd_nat, natOf hri.1, Int.toNat_natCast]; exact impl_has_f (by omega) (by omega)
          have e2 : impl_has.f (rd l (j : Int)) (i : Int) = some ((l.getD j 0).toNat.testBit i) := by rw [rd_nat, natOf hrj.1, Int.toNat_natCast]; exact impl_has_f (by omega) (by omega)
          by_cases he : (l.getD i 0).toNat.testBit j = (l.getD j 0).toNat.testBit i
          · refine Ev.late_step 0 (fun k _ => ?_) (ih2 (fun b hb => ?_))
            · simp only [impl_GraphOk.l2]
              rw [if_pos (by omega), if_pos (by omega), if_pos (by omega), e1, e2]
              simp only [Option.bind_some, he, bne_self_eq_false]
              rw [if_neg (by decide), wrap_succ (by omega)]
            · by_cases hb2 : b = j
              · subst hb2; exact he
              · exact hinv2 b (by omega)
          · rw [gB_false (fun h => he (okG_sym h hi hj))]
            refine Ev.one fun k => ?_
            simp only [impl_GraphOk.l2]
            rw [if_pos (by omega), if_pos (by omega), if_pos (by omega), e1, e2]
            simp only [Option.bind_some]
            rw [if_pos (by simpa using he)]
        · intro hinv2
          refine Ev.late_step 0 (fun k _ => ?_) (ih (fun a b ha hb => ?_))
          · simp only [impl_GraphOk.l2]
            rw [if_neg (by omega), wrap_succ (by omega)]
          · by_cases ha2 : a = i
            · subst ha2; exact hinv2 b hb
            · exact hinv a b (by omega) hb
      refine Ev.late_step 0 (fun k _ => ?_) (L2 0 (by omega) (fun b hb => by omega))
      simp only [impl_GraphOk.l1]
      rw [if_pos (by omega), if_pos (by omega), if_pos (by omega), hn]
      rfl
    · intro hinv
      rw [gB_true (okG_mk h1 h8 hn hr hinv)]
      refine Ev.one fun k => ?_
      simp only [impl_GraphOk.l1]
      rw [if_neg (by omega)]
  have L0 : ∀ i, i ≤ n → rowsOk n l i → Ev (fun k => impl_GraphOk.l0 k l (n : Int) (i : Int) (n : Int) l) (gB (n : Int) l) := by
    intro i hi hr
    refine upto_ev (fun k i => impl_GraphOk.l0 k l (n : Int) (i : Int) (n : Int) l) n (rowsOk n l) _ ?_ ?_ i hi hr
    · intro i hi hr ih
      by_cases hin : 0 ≤ l.getD i 0 ∧ l.getD i 0 ≤ ((2 ^ n - 1 : Nat) : Int)
      · have e1 : impl_has.f (rd l (i : Int)) (i : Int) = some ((l.getD i 0).toNat.testBit i) := by rw [rd_nat, natOf hin.1, Int.toNat_natCast]; exact impl_has_f (by omega) (by omega)
        by_cases hb : (l.getD i 0).toNat.testBit i = true
        · rw [gB_false (fun h => by have := (okG_row h hi).2.2; rw [hb] at this; cases this)]
          refine Ev.one fun k => ?_
          simp only [impl_GraphOk.l0]
          rw [if_pos (by omega), if_pos (by omega), if_pos (by omega), impl_all_f (by omega), Option.bind_some, impl_in_f, e1, rd_nat, decide_eq_true hin]
          simp only [Option.bind_some, hb]
          rfl
        · have hb' : (l.getD i 0).toNat.testBit i = false := by simpa using hb
          refine Ev.late_step 0 (fun k _ => ?_) (ih (fun j hj => ?_))
          · simp only [impl_GraphOk.l0]
            rw [if_pos (by omega), if_pos (by omega), if_pos (by omega), impl_all_f (by omega), Option.bind_some, impl_in_f, e1, rd_nat, decide_eq_true hin]
            simp only [Option.bind_some, hb']
            rw [if_pos trivial, if_neg (by decide), wrap_succ (by omega)]
          · by_cases hj2 : j = i
            · subst hj2; exact ⟨hin.1, hin.2, hb'⟩
            · exact hr j (by omega)
      · rw [gB_false (fun h => hin ⟨(okG_row h hi).1, (okG_row h hi).2.1⟩)]
        refine Ev.one fun k => ?_
        simp only [impl_GraphOk.l0]
        rw [if_pos (by omega), if_pos (by omega), if_pos (by omega), impl_all_f (by omega), Option.bind_some, impl_in_f, rd_nat, decide_eq_false hin]
        simp
    · intro hr
      refine Ev.late_step 0 (fun k _ => ?_) (L1 hr 0 (by omega) (fun a b ha => by omega))
      simp only [impl_GraphOk.l0]
      rw [if_neg (by omega), hn]
      rfl
  refine Ev.late_step 0 (g := fun k => impl_GraphOk.f k (n : Int) l) (fun k _ => ?_) (L0 0 (by omega) (fun j hj => by omega))
  unfold impl_GraphOk.f
  rw [impl_in_f, decide_eq_true hs]
  simp only [Option.bind_some, if_pos, impl_GraphOk.j0, hn, bne_self_eq_false]
  rw [if_neg (by decide)]
  rfl
theorem all_spec {n : Nat} (h : n ≤ 8) : wrap64 (shl .i64 1 (n : Int) - 1) = ((2 ^ n - 1 : Nat) : Int) := by
  rw [shl1 (by omega)]
  obtain ⟨h1, h2⟩ := small_pow h
  generalize 2 ^ n = p at h1 h2
  rw [wrap_small (by omega) (by omega)]
  omega
theorem spec_GraphOk_ev (s : Int) (l : List Int) : Ev (fun k => spec_GraphOk.f k s l) (gB s l) := by
  by_cases hs : 1 ≤ s ∧ s ≤ 8
  case neg =>
    rw [gB_false (fun h => hs ⟨(okG_len h).2.1, (okG_len h).2.2⟩)]
    refine Ev.one fun k => ?_
    unfold spec_GraphOk.f
    rw [spec_l01In_f, decide_eq_false hs]
    simp [spec_GraphOk.j0]
  by_cases hl : (l.length : Int) = s
  case neg =>
    rw [gB_false (fun h => hl (okG_len h).1)]
    refine Ev.one fun k => ?_
    unfold spec_GraphOk.f
    rw [spec_l01In_f, decide_eq_true hs]
    simp [spec_GraphOk.j0, hl]
  obtain ⟨n, rfl⟩ : ∃ n : Nat, s = (n : Int) := ⟨s.toNat, by omega⟩
  have hn : l.length = n := by omega
  have h1 : 1 ≤ n := by omega
  have h8 : n ≤ 8 := by omega
  obtain ⟨hp, hp0⟩ := small_pow h8
  -- the second pair of loops
  have L1 : rowsOk n l n → ∀ i, i ≤ n → (∀ a b, a < i → b < n → (l.getD a 0).toNat.testBit b = (l.getD b 0).toNat.testBit a) → Ev (fun k => spec_GraphOk.l1 k l (n : Int) (i : Int) (n : Int) l) (gB (n : Int) l) := by
    intro hr i hi hinv
    refine upto_ev (fun k i => spec_GraphOk.l1 k l (n : Int) (i : Int) (n : Int) l) n (fun i => ∀ a b, a < i → b < n → (l.getD a 0).toNat.testBit b = (l.getD b 0).toNat.testBit a) _ ?_ ?_ i hi hinv
    · intro i hi hinv ih
      have L2 : ∀ j, j ≤ n → (∀ b, b < j → (l.getD i 0).toNat.testBit b = (l.getD b 0).toNat.testBit i) → Ev (fun k => spec_GraphOk.l2 k (i : Int) (rd l (i : Int)) l (n : Int) (i : Int) (n : Int) (j : Int) (n : Int) l) (gB (n : Int) l) := by
        intro j hj hj2
        refine upto_ev (fun k j => spec_GraphOk.l2 k (i : Int) (rd l (i : Int)) l (n : Int) (i : Int) (n : Int) (j : Int) (n : Int) l) n (fun j => ∀ b, b < j → (l.getD i 0).toNat.testBit b = (l.getD b 0).toNat.testBit i) _ ?_ ?_ j hj hj2
        · intro j hj hinv2 ih2
          have hri := hr i hi
          have hrj := hr j hj
          have e1 : spec_l02Has.f (rd l (i : Int)) (j : Int) = some ((l.getD i 0).toNat.testBit j) := by rw [rd_nat, natOf hri.1, Int.toNat_natCast]; exact spec_has_f (by omega) (by omega)
          have e2 : spec_l02Has.f (rd l (j : Int)) (i : Int) = some ((l.getD j 0).toNat.testBit i) := by rw [rd_nat, natOf hrj.1, Int.toNat_natCast]; exact spec_has_f (by omega) (by omega)
          by_cases he : (l.getD i 0).toNat.testBit j = (l.getD j 0).toNat.testBit i
          · refine Ev.late_step 0 (fun k _ => ?_) (ih2 (fun b hb => ?_))
            · simp only [spec_GraphOk.l2]
              rw [if_pos (by omega), e1, Option.bind_some, if_pos (by omega), if_pos (by omega), e2]
              simp only [Option.bind_some, he, bne_self_eq_false]
              rw [if_neg (by decide), wrap_succ (by omega)]
            · by_cases hb2 : b = j
              · subst hb2; exact he
              · exact hinv2 b (by omega)
          · rw [gB_false (fun h => he (okG_sym h hi hj))]
            refine Ev.one fun k => ?_
            simp only [spec_GraphOk.l2]
            rw [if_pos (by omega), e1, Option.bind_some, if_pos (by omega), if_pos (by omega), e2]
            simp only [Option.bind_some]
            rw [if_pos (by simpa using he)]
        · intro hinv2
          refine Ev.late_step 0 (fun k _ => ?_) (ih (fun a b ha hb => ?_))
          · simp only [spec_GraphOk.l2]
            rw [if_neg (by omega), wrap_succ (by omega)]
          · by_cases ha2 : a = i
            · subst ha2; exact hinv2 b hb
            · exact hinv a b (by omega) hb
      refine Ev.late_step 0 (fun k _ => ?_) (L2 0 (by omega) (fun b hb => by omega))
      simp only [spec_GraphOk.l1]
      rw [if_pos (by omega), if_pos (by omega), if_pos (by omega), hn]
      rfl
    · intro hinv
      rw [gB_true (okG_mk h1 h8 hn hr hinv)]
      refine Ev.one fun k => ?_
      simp only [spec_GraphOk.l1]
      rw [if_neg (by omega)]
  have L0 : ∀ i, i ≤ n → rowsOk n l i → Ev (fun k => spec_GraphOk.l0 k l (n : Int) (i : Int) (n : Int) l) (gB (n : Int) l) := by
    intro i hi hr
    refine upto_ev (fun k i => spec_GraphOk.l0 k l (n : Int) (i : Int) (n : Int) l) n (rowsOk n l) _ ?_ ?_ i hi hr
    · intro i hi hr ih
      by_cases hin : 0 ≤ l.getD i 0 ∧ l.getD i 0 ≤ ((2 ^ n - 1 : Nat) : Int)
      · have e1 : spec_l02Has.f (rd l (i : Int)) (i : Int) = some ((l.getD i 0).toNat.testBit i) := by rw [rd_nat, natOf hin.1, Int.toNat_natCast]; exact spec_has_f (by omega) (by omega)
        by_cases hb : (l.getD i 0).toNat.testBit i = true
        · rw [gB_false (fun h => by have := (okG_row h hi).2.2; rw [hb] at this; cases this)]
          refine Ev.one fun k => ?_
          simp only [spec_GraphOk.l0]
          rw [if_pos (by omega), if_pos (by omega), if_pos (by omega), if_pos (by omega), all_spec h8, spec_l01In_f, e1, rd_nat, decide_eq_true hin]
          simp only [Option.bind_some, hb]
          rfl
        · have hb' : (l.getD i 0).toNat.testBit i = false := by simpa using hb
          refine Ev.late_step 0 (fun k _ => ?_) (ih (fun j hj => ?_))
          · simp only [spec_GraphOk.l0]
            rw [if_pos (by omega), if_pos (by omega), if_pos (by omega), if_pos (by omega), all_spec h8, spec_l01In_f, e1, rd_nat, decide_eq_true hin]
            simp only [Option.bind_some, hb']
            rw [if_pos trivial, if_neg (by decide), wrap_succ (by omega)]
          · by_cases hj2 : j = i
            · subst hj2; exact ⟨hin.1, hin.2, hb'⟩
            · exact hr j (by omega)
      · rw [gB_false (fun h => hin ⟨(okG_row h hi).1, (okG_row h hi).2.1⟩)]
        refine Ev.one fun k => ?_
        simp only [spec_GraphOk.l0]
        rw [if_pos (by omega), if_pos (by omega), if_pos (by omega), if_pos (by omega), all_spec h8, spec_l01In_f, rd_nat, decide_eq_false hin]
        simp
    · intro hr
      refine Ev.late_step 0 (fun k _ => ?_) (L1 hr 0 (by omega) (fun a b ha => by omega))
      simp only [spec_GraphOk.l0]
      rw [if_neg (by omega), hn]
      rfl
  refine Ev.late_step 0 (g := fun k => spec_GraphOk.f k (n : Int) l) (fun k _ => ?_) (L0 0 (by omega) (fun j hj => by omega))
  unfold spec_GraphOk.f
  rw [spec_l01In_f, decide_eq_true hs]
  simp only [Option.bind_some, if_pos, spec_GraphOk.j0, hn, bne_self_eq_false]
  rw [if_neg (by decide)]
  rfl
end Go.Proofs.YtlfjmklhifjalaaDoor.P
