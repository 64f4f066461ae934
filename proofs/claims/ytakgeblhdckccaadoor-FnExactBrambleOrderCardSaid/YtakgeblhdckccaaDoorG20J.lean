/- Linked sets and brambles: the program and the reference answer alike. -/
import Derived.Test.YtakgeblhdckccaaDoorG1J
import Derived.Test.YtakgeblhdckccaaDoorG6PJ
import Derived.Test.YtakgeblhdckccaaDoorQj2
import Derived.Test.YtakgeblhdckccaaDoorQj0
namespace Go.Proofs.YtakgeblhdckccaaDoor.P
open Go.RowKit Go.Proofs.YtakgeblhdckccaaDoorW.PrintWords Go.Proofs.YtakgeblhdckccaaDoorW.PrintLast Go.Proofs.YtakgeblhdckccaaDoorW.PrintMore Go.Proofs.YtakgeblhdckccaaDoor.Q
set_option linter.unusedVariables false

/-- The least member. -/
def low (S : Nat) : Nat := (bl S).getD 0 0
theorem tz_low_all : ∀ S, S < 256 → 0 < S → tzOf ((S : Nat) : Int) = ((low S : Nat) : Int) ∧ S.testBit (low S) = true ∧ 0 < (bl S).length ∧ low S < 8 := by decide +kernel
theorem low_lt {n S : Nat} (hn : n ≤ 8) (hS : S < 2 ^ n) (h0 : 0 < S) : low S < n := by
  have h := (tz_low_all S (lt_256 hn hS) h0).2.1
  apply Classical.byContradiction
  intro hc
  rw [lt_iff_bits.1 hS _ (by omega)] at h
  cases h
theorem least_f {S : Nat} (hS : S < 256) (h0 : 0 < S) : impl_least.f (S : Int) = some ((low S : Nat) : Int) := by
  have hw : IntKind.u64.wrap ((S : Nat) : Int) = (S : Int) := by
    rw [show IntKind.u64.wrap ((S : Nat) : Int) = ((S : Nat) : Int) % 18446744073709551616 from rfl]
    omega
  unfold impl_least.f bits_TrailingZeros.f bits_TrailingZeros64.f
  rw [hw, if_pos (by omega), Option.bind_some, Option.bind_some, (tz_low_all S hS h0).1]
/-- Is a set linked? -/
def lk (n : Nat) (R : Nat → Nat) (S : Nat) : Bool := decide (0 < S ∧ part n R S (low S) = S)
section
variable {n : Nat} {R : Nat → Nat}
theorem linked_ev (hV : V n R) (s : Int) {S : Nat} (hS : S < 2 ^ n) : Ev (fun k => impl_Graph_isLinked.f k s (rows n R) (S : Int)) (lk n R S) := by
  have hn := hV.le
  by_cases h0 : 0 < S
  · have hb := (tz_low_all S (lt_256 hn hS) h0).2.1
    obtain ⟨K, h⟩ := part_ev hV s hS (low_lt hn hS h0) hb
    refine ⟨K, fun k hk => ?_⟩
    have e := h k hk
    simp only at e ⊢
    unfold impl_Graph_isLinked.f
    rw [if_neg (by omega), least_f (lt_256 hn hS) h0, Option.bind_some, e, Option.bind_some]
    congr 1
    unfold lk
    rw [Bool.eq_iff_iff, beq_iff_eq, decide_eq_true_eq]
    omega
  · obtain rfl : S = 0 := by omega
    refine Ev.some fun k => ?_
    unfold impl_Graph_isLinked.f lk
    rw [if_pos (by omega)]
    rfl
theorem l03Part_ev (hV : V n R) {S v : Nat} (hS : S < 2 ^ n) (hv : v < n) : Ev (fun k => spec_l03Part.f k (n : Int) (rows n R) (S : Int) (v : Int)) ((part n R S v : Nat) : Int) := by
  have hn := hV.le
  have hL : Ev (fun k => spec_l03Part.l0 k (S : Int) ((grow R S v 0 : Nat) : Int) ((0 : Nat) : Int) (n : Int) (rows n R)) ((part n R S v : Nat) : Int) := by
    refine upto_ev (fun k i => spec_l03Part.l0 k (S : Int) ((grow R S v i : Nat) : Int) (i : Int) (n : Int) (rows n R)) n (fun _ => True) _ ?_ ?_ 0 (Nat.zero_le _) trivial
    · intro i hi _ ih
      have hg := grow_lt (R := R) hS hv i
      obtain ⟨K, h⟩ := near_spec_ev hV (n : Int) hg
      refine Ev.late_step K (fun k hk => ?_) (ih trivial)
      have e := h k hk
      simp only at e
      simp only [spec_l03Part.l0]
      rw [if_pos (by omega), e, Option.bind_some, and_nat (lt62 hn (near_lt hV hg)) (lt62 hn hS), wrap_succ (by omega)]
      rfl
    · intro _
      refine Ev.one fun k => ?_
      simp only [spec_l03Part.l0]
      rw [if_neg (by omega)]
      rfl
  refine Ev.late_eq 0 (fun k _ => ?_) hL
  unfold spec_l03Part.f
  rw [if_pos (by omega), shl1 (by omega)]
  rfl
theorem sub_all : ∀ S, S < 256 → ∀ P, P < 256 → P &&& S = P → P ≤ S ∧ S - P = sd S P := by decide +kernel
theorem sub_sd {S P : Nat} (hS : S < 256) (h : ∀ j, P.testBit j = true → S.testBit j = true) : P ≤ S ∧ S - P = sd S P := by
  have e : P &&& S = P := by
    apply set_ext
    intro i
    rw [Nat.testBit_and]
    cases hp : P.testBit i with
    | true => rw [h i hp]; rfl
    | false => rfl
  have hle : P ≤ S := by rw [← e]; exact Nat.and_le_right
  exact sub_all S hS P (by omega) e
theorem l03Parts_ev (hV : V n R) : ∀ d S, S ≤ d → S < 2 ^ n → ∀ acc : List Int, acc.length + S < 1000 → ∃ L : List Int, Ev (fun k => spec_l03Parts.l0 k (S : Int) acc (n : Int) (rows n R)) (acc ++ L) ∧ (L = [] ↔ S = 0) ∧ (L.length = 1 ↔ lk n R S = true) := by
  have hn := hV.le
  intro d
  induction d with
  | zero =>
    intro S hd hS acc ha
    obtain rfl : S = 0 := by omega
    refine ⟨[], Ev.one fun k => ?_, by simp, by simp [lk]⟩
    simp only [spec_l03Parts.l0]
    rw [if_pos (by omega), List.append_nil]
  | succ d ih =>
    intro S hd hS acc ha
    by_cases h0 : 0 < S
    · obtain ⟨_, hb, hlen, _⟩ := tz_low_all S (lt_256 hn hS) h0
      have hv := low_lt hn hS h0
      obtain ⟨hP1, hP2⟩ := grow_bits (R := R) hb n
      obtain ⟨hle, hsub⟩ := sub_sd (lt_256 hn hS) hP2
      have hPpos : 0 < part n R S (low S) := by
        rcases Nat.eq_zero_or_pos (part n R S (low S)) with h | h
        · change (part n R S (low S)).testBit (low S) = true at hP1
          rw [h] at hP1; simp at hP1
        · exact h
      change part n R S (low S) ≤ S at hle
      obtain ⟨L, hL, h1, h2⟩ := ih (S - part n R S (low S)) (by omega) (by omega) (acc ++ [((part n R S (low S) : Nat) : Int)]) (by rw [List.length_append, List.length_singleton]; omega)
      refine ⟨((part n R S (low S) : Nat) : Int) :: L, ?_, by simp; omega, ?_⟩
      · obtain ⟨K, h⟩ := list_spec_ev (lt62 hn hS)
        obtain ⟨K2, h2⟩ := l03Part_ev hV hS hv
        rw [show acc ++ ((part n R S (low S) : Nat) : Int) :: L = acc ++ [((part n R S (low S) : Nat) : Int)] ++ L by simp]
        refine Ev.late_step (K + K2) (fun k hk => ?_) hL
        have e := h k (by omega)
        have e2 := h2 k (by omega)
        simp only at e e2
        have hr : rd (ints (bl S)) 0 = ((low S : Nat) : Int) := by
          rw [show (0 : Int) = ((0 : Nat) : Int) from rfl, rd_nat]
          unfold low ints
          rw [List.getD_eq_getElem?_getD, List.getD_eq_getElem?_getD, List.getElem?_map, List.getElem?_eq_getElem hlen]
          rfl
        simp only [spec_l03Parts.l0]
        rw [if_neg (by omega), e, Option.bind_some, if_pos (by rw [ints_len]; omega), hr, e2, Option.bind_some, if_pos (by omega), wrap_small (by have := lt_256 hn hS; omega) (by have := lt_256 hn hS; omega)]
        congr 1
        omega
      · rw [List.length_cons]
        unfold lk
        rw [decide_eq_true_eq]
        constructor
        · intro h
          have : L = [] := List.length_eq_zero_iff.1 (by omega)
          have := h1.1 this
          omega
        · rintro ⟨_, h⟩
          rw [h1.2 (by omega)]
          rfl
    · obtain rfl : S = 0 := by omega
      refine ⟨[], Ev.one fun k => ?_, by simp, by simp [lk]⟩
      simp only [spec_l03Parts.l0]
      rw [if_pos (by omega), List.append_nil]
/-- A linked set of the graph, out of any number. -/
def okE (n : Nat) (R : Nat → Nat) (x : Int) : Bool := decide (0 ≤ x ∧ x ≤ ((2 ^ n - 1 : Nat) : Int)) && lk n R x.toNat
theorem okE_nat {x : Int} (h : okE n R x = true) : ∃ S : Nat, x = (S : Int) ∧ S < 2 ^ n ∧ lk n R S = true := by
  unfold okE at h
  rw [Bool.and_eq_true, decide_eq_true_eq] at h
  have := Nat.two_pow_pos n
  exact ⟨x.toNat, by omega, by omega, h.2⟩
theorem isLinked_spec (hV : V n R) (x : Int) : Ev (fun k => spec_IsLinked.f k (n : Int) (rows n R) x) (okE n R x) := by
  have hn := hV.le
  have h256 := small_pow hn
  obtain ⟨K, h⟩ := spec_GraphOk_ev (n : Int) (rows n R)
  rw [gB_rows hV] at h
  have hset : ∀ k, K ≤ k → spec_SetOk.f k (n : Int) (rows n R) x = some (decide (0 ≤ x ∧ x ≤ ((2 ^ n - 1 : Nat) : Int))) := by
    intro k hk
    have e := h k hk
    simp only at e
    unfold spec_SetOk.f
    rw [e, Option.bind_some, if_pos rfl, if_pos (by omega), all_spec hn, spec_l01In_f, Option.bind_some]
  unfold okE
  by_cases hc : 0 ≤ x ∧ x ≤ ((2 ^ n - 1 : Nat) : Int)
  · obtain ⟨S, rfl⟩ : ∃ S : Nat, x = (S : Int) := ⟨x.toNat, by omega⟩
    obtain ⟨L, ⟨K2, hL⟩, _, h2⟩ := l03Parts_ev hV S S (Nat.le_refl _) (by omega) [] (by simp only [List.length_nil]; omega)
    refine ⟨K + K2, fun k hk => ?_⟩
    have e2 := hL k (by omega)
    simp only [List.nil_append] at e2
    show spec_IsLinked.f k (n : Int) (rows n R) (S : Int) = _
    unfold spec_IsLinked.f spec_l03Parts.f
    rw [hset k (by omega), decide_eq_true hc, Option.bind_some, if_pos rfl, e2, Option.bind_some, Bool.true_and, Int.toNat_natCast]
    congr 1
    rw [Bool.eq_iff_iff, beq_iff_eq, ← h2]
    omega
  · refine ⟨K, fun k hk => ?_⟩
    show spec_IsLinked.f k (n : Int) (rows n R) x = _
    unfold spec_IsLinked.f
    rw [hset k hk, decide_eq_false hc, Option.bind_some, if_neg (by decide)]
    rfl
theorem bramble_both (hV : V n R) (l : List Int) (hl : l.length ≤ 20) : ∀ d i, l.length = i + d → (∀ j, j < i → okE n R (l.getD j 0) = true) →
    ∃ r, Ev (fun k => impl_IsBramble.l0 k l l (l.length : Int) (i : Int) (n : Int) (rows n R)) r ∧ Ev (fun k => spec_IsBramble.l0 k l l (l.length : Int) (i : Int) (n : Int) (rows n R)) r ∧ (r = true → ∀ j, j < l.length → okE n R (l.getD j 0) = true) := by
  have hn := hV.le
  have h256 := small_pow hn
  intro d
  induction d with
  | zero =>
    intro i hd hok
    refine ⟨true, Ev.one fun k => ?_, Ev.one fun k => ?_, fun _ j hj => hok j (by omega)⟩
    · simp only [impl_IsBramble.l0]; rw [if_neg (by omega)]
    · simp only [spec_IsBramble.l0]; rw [if_neg (by omega)]
  | succ d ih =>
    intro i hd hok
    have hi : i < l.length := by omega
    have ht : ((l.take i).length : Int) = (i : Int) := by rw [List.length_take]; omega
    obtain ⟨K1, h1⟩ := isLinked_spec hV (l.getD i 0)
    by_cases hx : okE n R (l.getD i 0) = true
    · rw [hx] at h1
      obtain ⟨S, hS, hSn, hlk⟩ := okE_nat hx
      obtain ⟨K2, h2⟩ := linked_ev hV (n : Int) hSn
      obtain ⟨r0, hr1, hr2, hr3⟩ := ih (i + 1) (by omega) (fun j hj => by
        by_cases e : j = i
        · rw [e]; exact hx
        · exact hok j (by omega))
      have inner : ∀ e j, i = j + e → ∃ r, Ev (fun k => impl_IsBramble.l1 k l (S : Int) l (l.length : Int) (i : Int) (l.take i) (i : Int) (j : Int) (n : Int) (rows n R)) r ∧ Ev (fun k => spec_IsBramble.l1 k l (S : Int) l (l.length : Int) (i : Int) (l.take i) (i : Int) (j : Int) (n : Int) (rows n R)) r ∧ (r = true → ∀ j, j < l.length → okE n R (l.getD j 0) = true) := by
        intro e
        induction e with
        | zero =>
          intro j hj
          refine ⟨r0, Ev.late_step 0 (fun k _ => ?_) hr1, Ev.late_step 0 (fun k _ => ?_) hr2, hr3⟩
          · simp only [impl_IsBramble.l1]; rw [if_neg (by omega), wrap_succ (by omega)]
          · simp only [spec_IsBramble.l1]; rw [if_neg (by omega), wrap_succ (by omega)]
        | succ e ihe =>
          intro j hj
          obtain ⟨T, hT, hTn, _⟩ := okE_nat (hok j (by omega))
          have hrd : rd (l.take i) (j : Int) = (T : Int) := by
            rw [rd_nat, ← hT, List.getD_eq_getElem?_getD, List.getD_eq_getElem?_getD, List.getElem?_take_of_lt (by omega)]
          obtain ⟨K3, h3⟩ := around_ev hV (n : Int) hSn
          obtain ⟨K4, h4⟩ := near_spec_ev hV (n : Int) hSn
          have hnl := near_lt (R := R) hV hSn
          by_cases hz : near R S &&& T = 0
          · refine ⟨false, Ev.late K3 (fun k hk => ?_), Ev.late K4 (fun k hk => ?_), fun h => by cases h⟩
            · have e3 := h3 k hk
              simp only at e3
              simp only [impl_IsBramble.l1]
              rw [if_pos (by omega), if_pos (by omega), if_pos (by omega), e3, Option.bind_some, hrd, and_nat (lt62 hn hnl) (lt62 hn hTn), if_pos (by omega)]
            · have e3 := h4 k hk
              simp only at e3
              simp only [spec_IsBramble.l1]
              rw [if_pos (by omega), if_pos (by omega), if_pos (by omega), e3, Option.bind_some, hrd, and_nat (lt62 hn hnl) (lt62 hn hTn), if_pos (by omega)]
          · obtain ⟨r, g1, g2, g3⟩ := ihe (j + 1) (by omega)
            refine ⟨r, Ev.late_step K3 (fun k hk => ?_) g1, Ev.late_step K4 (fun k hk => ?_) g2, g3⟩
            · have e3 := h3 k hk
              simp only at e3
              simp only [impl_IsBramble.l1]
              rw [if_pos (by omega), if_pos (by omega), if_pos (by omega), e3, Option.bind_some, hrd, and_nat (lt62 hn hnl) (lt62 hn hTn), if_neg (by omega), wrap_succ (by omega)]
            · have e3 := h4 k hk
              simp only at e3
              simp only [spec_IsBramble.l1]
              rw [if_pos (by omega), if_pos (by omega), if_pos (by omega), e3, Option.bind_some, hrd, and_nat (lt62 hn hnl) (lt62 hn hTn), if_neg (by omega), wrap_succ (by omega)]
      obtain ⟨r, g1, g2, g3⟩ := inner i 0 (by omega)
      refine ⟨r, ?_, ?_, g3⟩
      · obtain ⟨K5, g1⟩ := g1
        refine ⟨K2 + K5 + 2, fun k hk => ?_⟩
        obtain ⟨k, rfl⟩ : ∃ m, k = m + 2 := ⟨k - 2, by omega⟩
        have e2 := h2 (k + 1) (by omega)
        have e5 := g1 k (by omega)
        simp only at e2 e5
        simp only [impl_IsBramble.l0]
        rw [if_pos (by omega), if_pos (by omega), if_pos (by omega), impl_all_f (by omega), Option.bind_some, impl_in_f, Option.bind_some, rd_nat, hS, decide_eq_true (by omega), if_pos rfl, e2, Option.bind_some, hlk]
        simp only [impl_IsBramble.j2]
        rw [if_neg (by decide), if_pos (by omega), if_pos (by omega), Int.toNat_natCast, ht]
        exact e5
      · obtain ⟨K5, g2⟩ := g2
        refine ⟨K1 + K5 + 1, fun k hk => ?_⟩
        obtain ⟨k, rfl⟩ : ∃ m, k = m + 1 := ⟨k - 1, by omega⟩
        have e1 := h1 k (by omega)
        have e5 := g2 k (by omega)
        simp only at e1 e5
        simp only [spec_IsBramble.l0]
        rw [if_pos (by omega), if_pos (by omega), if_pos (by omega), rd_nat, e1, Option.bind_some, if_pos rfl, if_pos (by omega), hS, Int.toNat_natCast, ht]
        exact e5
    · have hx' : okE n R (l.getD i 0) = false := by simpa using hx
      rw [hx'] at h1
      refine ⟨false, ?_, Ev.late K1 (fun k hk => ?_), fun h => by cases h⟩
      · by_cases hc : 0 ≤ l.getD i 0 ∧ l.getD i 0 ≤ ((2 ^ n - 1 : Nat) : Int)
        · obtain ⟨S, hS⟩ : ∃ S : Nat, l.getD i 0 = (S : Int) := ⟨(l.getD i 0).toNat, by omega⟩
          have hlk : lk n R S = false := by
            unfold okE at hx'
            rw [decide_eq_true hc, Bool.true_and, hS, Int.toNat_natCast] at hx'
            exact hx'
          obtain ⟨K2, h2⟩ := linked_ev hV (n : Int) (show S < 2 ^ n by omega)
          refine ⟨K2 + 2, fun k hk => ?_⟩
          obtain ⟨k, rfl⟩ : ∃ m, k = m + 2 := ⟨k - 2, by omega⟩
          have e2 := h2 (k + 1) (by omega)
          simp only at e2
          simp only [impl_IsBramble.l0]
          rw [if_pos (by omega), if_pos (by omega), if_pos (by omega), impl_all_f (by omega), Option.bind_some, impl_in_f, Option.bind_some, rd_nat, hS, decide_eq_true (by omega), if_pos rfl, e2, Option.bind_some, hlk]
          simp only [impl_IsBramble.j2]
          rw [if_pos (by decide)]
        · refine ⟨2, fun k hk => ?_⟩
          obtain ⟨k, rfl⟩ : ∃ m, k = m + 2 := ⟨k - 2, by omega⟩
          simp only [impl_IsBramble.l0]
          rw [if_pos (by omega), if_pos (by omega), if_pos (by omega), impl_all_f (by omega), Option.bind_some, impl_in_f, Option.bind_some, rd_nat, decide_eq_false hc, if_neg (by decide)]
          simp only [impl_IsBramble.j2]
          rw [if_pos trivial]
      · have e1 := h1 k hk
        simp only at e1
        simp only [spec_IsBramble.l0]
        rw [if_pos (by omega), if_pos (by omega), if_pos (by omega), rd_nat, e1, Option.bind_some, if_neg (by decide)]
end
theorem isBramble_both (s : Int) (l o : List Int) : ∃ r, Ev (fun k => impl_IsBramble.f k s l o) r ∧ Ev (fun k => spec_IsBramble.f k s l o) r ∧ (r = true → ∃ n R, V n R ∧ s = (n : Int) ∧ l = rows n R ∧ o.length ≤ 20 ∧ ∀ j, j < o.length → okE n R (o.getD j 0) = true) := by
  obtain ⟨K, h⟩ := impl_GraphOk_ev s l
  obtain ⟨K1, h1⟩ := spec_GraphOk_ev s l
  have none_ : ∀ b : Bool, (b = false ∨ ¬ (1 ≤ (o.length : Int) ∧ (o.length : Int) ≤ 20)) → gB s l = b → ∃ r, Ev (fun k => impl_IsBramble.f k s l o) r ∧ Ev (fun k => spec_IsBramble.f k s l o) r ∧ (r = true → ∃ n R, V n R ∧ s = (n : Int) ∧ l = rows n R ∧ o.length ≤ 20 ∧ ∀ j, j < o.length → okE n R (o.getD j 0) = true) := by
    intro b hb hg
    rw [hg] at h h1
    refine ⟨false, ⟨K + 1, fun k hk => ?_⟩, ⟨K1 + 1, fun k hk => ?_⟩, fun h => by cases h⟩
    · have e := h k (by omega)
      simp only at e
      obtain ⟨k, rfl⟩ : ∃ m, k = m + 1 := ⟨k - 1, by omega⟩
      show impl_IsBramble.f (k + 1) s l o = _
      unfold impl_IsBramble.f
      rw [e, Option.bind_some]
      cases b with
      | false => rw [if_neg (by decide)]; simp only [impl_IsBramble.j0]; rw [if_pos trivial]
      | true =>
        rw [if_pos rfl, impl_in_f, Option.bind_some, decide_eq_false (by rcases hb with h | h; cases h; exact h)]
        simp only [impl_IsBramble.j0]
        rw [if_pos (by decide)]
    · have e := h1 k (by omega)
      simp only at e
      obtain ⟨k, rfl⟩ : ∃ m, k = m + 1 := ⟨k - 1, by omega⟩
      show spec_IsBramble.f (k + 1) s l o = _
      unfold spec_IsBramble.f
      rw [e, Option.bind_some]
      cases b with
      | false => rw [if_neg (by decide)]; simp only [spec_IsBramble.j0]; rw [if_pos trivial]
      | true =>
        rw [if_pos rfl, spec_l01In_f, Option.bind_some, decide_eq_false (by rcases hb with h | h; cases h; exact h)]
        simp only [spec_IsBramble.j0]
        rw [if_pos (by decide)]
  rcases gB_cases s l with ⟨hb, _⟩ | ⟨n, R, hV, rfl, rfl, hb⟩
  · exact none_ false (.inl rfl) hb
  · by_cases hl : 1 ≤ (o.length : Int) ∧ (o.length : Int) ≤ 20
    · rw [hb] at h h1
      obtain ⟨r, ⟨K2, h2⟩, ⟨K3, h3⟩, h4⟩ := bramble_both hV o (by omega) o.length 0 (by omega) (fun j hj => by omega)
      refine ⟨r, ⟨K + K2 + 1, fun k hk => ?_⟩, ⟨K1 + K3 + 1, fun k hk => ?_⟩, fun hr => ⟨n, R, hV, rfl, rfl, by omega, h4 hr⟩⟩
      · have e := h k (by omega)
        obtain ⟨k, rfl⟩ : ∃ m, k = m + 1 := ⟨k - 1, by omega⟩
        have e2 := h2 k (by omega)
        simp only at e e2
        show impl_IsBramble.f (k + 1) (n : Int) (rows n R) o = _
        unfold impl_IsBramble.f
        rw [e, Option.bind_some, if_pos rfl, impl_in_f, Option.bind_some, decide_eq_true hl]
        simp only [impl_IsBramble.j0]
        rw [if_neg (by decide)]
        exact e2
      · have e := h1 k (by omega)
        obtain ⟨k, rfl⟩ : ∃ m, k = m + 1 := ⟨k - 1, by omega⟩
        have e2 := h3 k (by omega)
        simp only at e e2
        show spec_IsBramble.f (k + 1) (n : Int) (rows n R) o = _
        unfold spec_IsBramble.f
        rw [e, Option.bind_some, if_pos rfl, spec_l01In_f, Option.bind_some, decide_eq_true hl]
        simp only [spec_IsBramble.j0]
        rw [if_neg (by decide)]
        exact e2
    · exact none_ true (.inr hl) hb
end Go.Proofs.YtakgeblhdckccaaDoor.P
