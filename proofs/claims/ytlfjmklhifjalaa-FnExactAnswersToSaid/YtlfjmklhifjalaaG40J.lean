/- The answers of guards to an attack: the program and the reference make the same list. -/
import Derived.Test.YtlfjmklhifjalaaGLJ
import Derived.Test.YtlfjmklhifjalaaGHJ
import Derived.Test.YtlfjmklhifjalaaQj1
import Derived.Test.YtlfjmklhifjalaaQj0
namespace Go.Proofs.Ytlfjmklhifjalaa.P
open Go.RowKit Go.Proofs.YtlfjmklhifjalaaW.PrintWords Go.Proofs.YtlfjmklhifjalaaW.PrintLast Go.Proofs.YtlfjmklhifjalaaW.PrintMore Go.Proofs.Ytlfjmklhifjalaa.Q
set_option linter.unusedVariables false

theorem sub_bit_all : ∀ S, S < 256 → ∀ u, u < 8 → S.testBit u = true → 2 ^ u ≤ S ∧ S - 2 ^ u = sd S (2 ^ u) := by decide +kernel
theorem add_bit_all : ∀ S, S < 256 → ∀ u, u < 8 → S.testBit u = false → S ||| 2 ^ u = S + 2 ^ u := by decide +kernel
/-- From n - 1 down, what f makes of the members of X. -/
def dn (X : Nat) (f : Nat → Nat) (n : Nat) : Nat → List Nat
  | 0 => []
  | d + 1 => dn X f n d ++ (if X.testBit (n - 1 - d) then [f (n - 1 - d)] else [])
theorem dn_len (X : Nat) (f : Nat → Nat) (n : Nat) : ∀ d, (dn X f n d).length ≤ d
  | 0 => Nat.le_refl _
  | d + 1 => by
    have := dn_len X f n d
    rw [dn, List.length_append]
    split <;> simp <;> omega
theorem dn_mem (X : Nat) (f : Nat → Nat) (n : Nat) : ∀ d, d ≤ n → ∀ y ∈ dn X f n d, ∃ u, n - d ≤ u ∧ u < n ∧ X.testBit u = true ∧ y = f u
  | 0, _, y, hy => by simp [dn] at hy
  | d + 1, hd, y, hy => by
    rw [dn, List.mem_append] at hy
    rcases hy with hy | hy
    · obtain ⟨u, h1, h2⟩ := dn_mem X f n d (by omega) y hy
      exact ⟨u, by omega, h2⟩
    · by_cases h : X.testBit (n - 1 - d) = true
      · rw [if_pos h] at hy
        exact ⟨n - 1 - d, by omega, by omega, h, by simpa using hy⟩
      · rw [if_neg h] at hy
        simp at hy
theorem dn_sorted (X : Nat) (f : Nat → Nat) (n : Nat) (hm : ∀ u u', X.testBit u = true → X.testBit u' = true → u' < u → u < n → f u ≤ f u') : ∀ d, d ≤ n → (dn X f n d).Pairwise (· ≤ ·)
  | 0, _ => List.Pairwise.nil
  | d + 1, hd => by
    rw [dn, List.pairwise_append]
    refine ⟨dn_sorted X f n hm d (by omega), ?_, ?_⟩
    · split <;> simp
    · intro y hy z hz
      by_cases h : X.testBit (n - 1 - d) = true
      · rw [if_pos h] at hz
        obtain rfl : z = f (n - 1 - d) := by simpa using hz
        obtain ⟨u, h1, h2, h3, rfl⟩ := dn_mem X f n d (by omega) y hy
        exact hm u _ h3 h (by omega) h2
      · rw [if_neg h] at hz
        simp at hz
theorem dn_perm (X : Nat) (f : Nat → Nat) (n : Nat) : ∀ d, d ≤ n → (dn X f n d).Perm ((((List.range n).drop (n - d)).filter X.testBit).map f)
  | 0, _ => by
    rw [List.drop_eq_nil_of_le (by simp)]
    exact List.Perm.refl _
  | d + 1, hd => by
    have h := dn_perm X f n d (by omega)
    have hi : n - (d + 1) < (List.range n).length := by rw [List.length_range]; omega
    rw [dn, List.drop_eq_getElem_cons hi, List.getElem_range, show n - (d + 1) + 1 = n - d by omega, List.filter_cons, show n - (d + 1) = n - 1 - d by omega]
    by_cases hb : X.testBit (n - 1 - d) = true
    · rw [if_pos hb, if_pos hb, List.map_cons]
      exact (List.perm_append_comm).trans (by simpa using h)
    · rw [if_neg hb, if_neg hb, List.append_nil]
      exact h
section
variable {n : Nat} {R : Nat → Nat} {S v : Nat}
theorem bl_perm (hn : n ≤ 8) {X : Nat} (hX : X < 2 ^ n) : ((List.range n).filter X.testBit).Perm (bl X) := by
  refine (List.perm_ext_iff_of_nodup (List.Pairwise.filter _ List.nodup_range) (List.Pairwise.filter _ List.nodup_range)).2 fun u => ?_
  simp only [List.mem_filter, List.mem_range]
  constructor
  · rintro ⟨h1, h2⟩; exact ⟨by omega, h2⟩
  · rintro ⟨_, h2⟩
    refine ⟨?_, h2⟩
    apply Classical.byContradiction
    intro hc
    rw [lt_iff_bits.1 hX u (by omega)] at h2
    cases h2
/-- The set after the guard at u has answered an attack on v. -/
def moved (S v u : Nat) : Nat := sd S (2 ^ u) ||| 2 ^ v
theorem moved_eq (hn : n ≤ 8) (hS : S < 2 ^ n) (hv : v < n) (hb : S.testBit v = false) {u : Nat} (hu : u < 8) (hu2 : S.testBit u = true) : moved S v u = S - 2 ^ u + 2 ^ v ∧ 2 ^ u ≤ S := by
  obtain ⟨h1, h2⟩ := sub_bit_all S (lt_256 hn hS) u hu hu2
  have h3 : (sd S (2 ^ u)).testBit v = false := by rw [sd_bit, hb, Bool.false_and]
  unfold moved
  rw [add_bit_all _ (lt_256 hn (sd_lt _ hS)) v (by omega) h3, h2]
  exact ⟨rfl, h1⟩
/-- The answers, in ascending order. -/
def ansL (n : Nat) (R : Nat → Nat) (S v : Nat) : List Nat := if S.testBit v then [S] else dn (S &&& R v) (moved S v) n n
theorem ansL_lt (hV : V n R) (hS : S < 2 ^ n) (hv : v < n) : ∀ x ∈ ansL n R S v, x < 2 ^ n := by
  intro x hx
  unfold ansL at hx
  split at hx
  · obtain rfl : x = S := by simpa using hx
    exact hS
  · obtain ⟨u, _, _, _, rfl⟩ := dn_mem _ _ _ _ (Nat.le_refl _) x hx
    exact or_lt (sd_lt _ hS) (bit_lt hv)
theorem ansL_len (hV : V n R) : (ansL n R S v).length ≤ 8 := by
  unfold ansL
  split
  · simp
  · exact Nat.le_trans (dn_len _ _ _ _) hV.le
theorem sort_ans (hV : V n R) (hS : S < 2 ^ n) (hv : v < n) (hb : S.testBit v = false) : (ints ((bl (S &&& R v)).map (moved S v))).mergeSort (fun x y => decide (x ≤ y)) = ints (dn (S &&& R v) (moved S v) n n) := by
  have hn := hV.le
  have hX : S &&& R v < 2 ^ n := and_lt _ hS
  have hbits : ∀ u, (S &&& R v).testBit u = true → S.testBit u = true := by
    intro u h
    rw [Nat.testBit_and, Bool.and_eq_true] at h
    exact h.1
  refine List.Perm.eq_of_pairwise (le := fun x y : Int => x ≤ y) (fun a b _ _ h1 h2 => Int.le_antisymm h1 h2) ?_ ?_ ?_
  · refine (List.pairwise_mergeSort (le := fun x y : Int => decide (x ≤ y)) ?_ ?_ _).imp (fun h => of_decide_eq_true h)
    · intro a b c h1 h2
      exact decide_eq_true (Int.le_trans (of_decide_eq_true h1) (of_decide_eq_true h2))
    · intro a b
      rw [Bool.or_eq_true, decide_eq_true_eq, decide_eq_true_eq]
      exact Int.le_total a b
  · unfold ints
    rw [List.pairwise_map]
    refine (dn_sorted (S &&& R v) (moved S v) n ?_ n (Nat.le_refl _)).imp (fun h => by omega)
    intro u u' h1 h2 h3 h4
    obtain ⟨e1, l1⟩ := moved_eq hn hS hv hb (show u < 8 by omega) (hbits u h1)
    obtain ⟨e2, l2⟩ := moved_eq hn hS hv hb (show u' < 8 by omega) (hbits u' h2)
    have h5 : 2 ^ u' ≤ 2 ^ u := Nat.pow_le_pow_right (by decide) (by omega)
    rw [e1, e2]
    omega
  · refine (List.mergeSort_perm _ _).trans ?_
    have h := dn_perm (S &&& R v) (moved S v) n n (Nat.le_refl _)
    rw [Nat.sub_self, List.drop_zero] at h
    exact (((h.trans ((bl_perm hn hX).map _)).symm).map _)
theorem answers_ev (hV : V n R) (s : Int) (hS : S < 2 ^ n) (hv : v < n) : Ev (fun k => impl_Graph_answers.f k s (rows n R) (S : Int) (v : Int)) (ints (ansL n R S v)) := by
  have hn := hV.le
  have hX : S &&& R v < 2 ^ n := and_lt _ hS
  cases hb : S.testBit v with
  | true =>
    refine Ev.some fun k => ?_
    unfold impl_Graph_answers.f ansL
    rw [impl_has_f (lt62 hn hS) (by omega), hb, Option.bind_some, if_pos rfl, if_pos rfl]
    rfl
  | false =>
    have hlen := bl_len (S &&& R v)
    have hL : Ev (fun k => impl_Graph_answers.l0 k (S : Int) (v : Int) (ints (((bl (S &&& R v)).take 0).map (moved S v))) (ints (bl (S &&& R v))) ((bl (S &&& R v)).length : Int) ((0 : Nat) : Int)) (ints (ansL n R S v)) := by
      refine upto_ev (fun k i => impl_Graph_answers.l0 k (S : Int) (v : Int) (ints (((bl (S &&& R v)).take i).map (moved S v))) (ints (bl (S &&& R v))) ((bl (S &&& R v)).length : Int) (i : Int)) (bl (S &&& R v)).length (fun _ => True) _ ?_ ?_ 0 (Nat.zero_le _) trivial
      · intro i hi _ ih
        have hu := (bl_mem (List.getElem_mem hi)).1
        have hr : rd (ints (bl (S &&& R v))) (i : Int) = (((bl (S &&& R v))[i] : Nat) : Int) := by
          rw [rd_nat]
          simp [ints, List.getD_eq_getElem?_getD, hi]
        have hul : (2 : Nat) ^ (bl (S &&& R v))[i] < 2 ^ 8 := bit_lt hu
        refine Ev.late_step 0 (fun k _ => ?_) (ih trivial)
        simp only [impl_Graph_answers.l0]
        rw [if_pos (by omega), if_pos (by omega), if_pos (by rw [ints_len]; omega), hr, impl_bit_f (by omega), Option.bind_some, impl_bit_f (by omega), Option.bind_some, if_pos (by rw [ints_len, List.length_map, List.length_take]; omega), andNot_nat (lt62 hn hS) (by omega), or_nat (lt62 hn (sd_lt _ hS)) (lt62 hn (bit_lt hv)), wrap_succ (by omega), List.take_succ_eq_append_getElem hi, List.map_append, ints_app]
        rfl
      · intro _
        refine Ev.one fun k => ?_
        simp only [impl_Graph_answers.l0]
        rw [if_neg (by omega), List.take_length]
        unfold slices_Sort_int_int.f
        rw [if_pos (by rw [ints_len, List.length_map]; omega), Option.bind_some, sort_ans hV hS hv hb]
        unfold ansL
        rw [hb, if_neg (by decide)]
    obtain ⟨K, h⟩ := listSet_imp (lt_256 hn hX)
    obtain ⟨K2, h2⟩ := hL
    refine ⟨K + K2, fun k hk => ?_⟩
    have e := h k (by omega)
    have e2 := h2 k (by omega)
    simp only at e e2 ⊢
    unfold impl_Graph_answers.f
    rw [impl_has_f (lt62 hn hS) (by omega), hb, Option.bind_some, if_neg (by decide), if_pos (by omega), if_pos (by rw [rows_len]; omega), rd_rows hV, and_nat (lt62 hn hS) (lt62 hn (hV.lt' v)), e, Option.bind_some, ints_len]
    exact e2
theorem answers_spec_ev (hV : V n R) (hS : S < 2 ^ n) (hv : v < n) : Ev (fun k => spec_l11Answers.f k (n : Int) (rows n R) (S : Int) (v : Int)) (ints (ansL n R S v)) := by
  have hn := hV.le
  have hpos := hV.pos
  have hX : S &&& R v < 2 ^ n := and_lt _ hS
  have h256 := lt_256 hn hS
  cases hb : S.testBit v with
  | true =>
    refine Ev.some fun k => ?_
    unfold spec_l11Answers.f ansL
    rw [spec_has_f (lt62 hn hS) (by omega), hb, Option.bind_some, if_pos rfl, if_pos rfl]
    rfl
  | false =>
    have hL : Ev (fun k => spec_l11Answers.l0 k (S : Int) (v : Int) (ints (dn (S &&& R v) (moved S v) n 0)) ((n : Int) - 1 - ((0 : Nat) : Int)) (n : Int) (rows n R)) (ints (ansL n R S v)) := by
      refine upto_ev (fun k d => spec_l11Answers.l0 k (S : Int) (v : Int) (ints (dn (S &&& R v) (moved S v) n d)) ((n : Int) - 1 - (d : Int)) (n : Int) (rows n R)) n (fun _ => True) _ ?_ ?_ 0 (Nat.zero_le _) trivial
      · intro d hd _ ih
        have hl := dn_len (S &&& R v) (moved S v) n d
        have e0 : (n : Int) - 1 - (d : Int) = ((n - 1 - d : Nat) : Int) := by omega
        have e1 : wrap64 (((n - 1 - d : Nat) : Int) - 1) = (n : Int) - 1 - ((d + 1 : Nat) : Int) := by rw [wrap_small (by omega) (by omega)]; omega
        refine Ev.late_step 0 (fun k _ => ?_) (ih trivial)
        simp only [spec_l11Answers.l0]
        rw [e0, if_pos (by omega), if_pos (by omega), if_pos (by rw [rows_len]; omega), rd_rows hV, and_nat (lt62 hn hS) (lt62 hn (hV.lt' v)), spec_has_f (lt62 hn hX) (by omega), Option.bind_some, e1]
        by_cases h : (S &&& R v).testBit (n - 1 - d) = true
        · have hSu : S.testBit (n - 1 - d) = true := by
            rw [Nat.testBit_and, Bool.and_eq_true] at h
            exact h.1
          obtain ⟨g1, g2⟩ := sub_bit_all S h256 (n - 1 - d) (by omega) hSu
          have e2 : (S : Int) - ((2 ^ (n - 1 - d) : Nat) : Int) = ((sd S (2 ^ (n - 1 - d)) : Nat) : Int) := by rw [← g2]; omega
          have hle := sd_le S (2 ^ (n - 1 - d))
          have e3 : wrap64 ((S : Int) - ((2 ^ (n - 1 - d) : Nat) : Int)) = ((sd S (2 ^ (n - 1 - d)) : Nat) : Int) := by rw [e2]; exact wrap_small (by omega) (by omega)
          rw [if_pos h, if_pos (by omega), if_pos (by rw [ints_len]; omega), shl1 (by omega), shl1 (by omega), e3, or_nat (lt62 hn (sd_lt _ hS)) (lt62 hn (bit_lt hv)), dn, if_pos h, ints_app]
          rfl
        · rw [if_neg h, dn, if_neg h, List.append_nil]
      · intro _
        refine Ev.one fun k => ?_
        simp only [spec_l11Answers.l0]
        rw [if_neg (by omega)]
        unfold ansL
        rw [hb, if_neg (by decide)]
    refine Ev.late_eq 0 (fun k _ => ?_) hL
    unfold spec_l11Answers.f
    rw [spec_has_f (lt62 hn hS) (by omega), hb, Option.bind_some, if_neg (by decide), wrap_small (by omega) (by omega), show (n : Int) - 1 - ((0 : Nat) : Int) = (n : Int) - 1 by omega]
    rfl
end
/-- A set of a valid graph's vertices. -/
noncomputable def setB (s : Int) (l : List Int) (a : Int) : Bool := gB s l && decide (0 ≤ a ∧ a ≤ ((2 ^ s.toNat - 1 : Nat) : Int))
theorem setB_cases {s : Int} {l : List Int} {a : Int} (h : setB s l a = true) : ∃ n R, ∃ S : Nat, V n R ∧ s = (n : Int) ∧ l = rows n R ∧ a = (S : Int) ∧ S < 2 ^ n := by
  unfold setB at h
  rw [Bool.and_eq_true, decide_eq_true_eq] at h
  rcases gB_cases s l with ⟨hb, _⟩ | ⟨n, R, hV, rfl, rfl, hb⟩
  · rw [hb] at h; cases h.1
  · rw [Int.toNat_natCast] at h
    have := Nat.two_pow_pos n
    exact ⟨n, R, a.toNat, hV, rfl, rfl, by omega, by omega⟩
theorem setOk_ev (s : Int) (l : List Int) (a : Int) : Ev (fun k => impl_SetOk.f k s l a) (setB s l a) := by
  obtain ⟨K, h⟩ := impl_GraphOk_ev s l
  refine ⟨K, fun k hk => ?_⟩
  have e := h k hk
  simp only at e ⊢
  unfold impl_SetOk.f setB
  rw [e, Option.bind_some]
  rcases gB_cases s l with ⟨hb, _⟩ | ⟨n, R, hV, rfl, rfl, hb⟩
  · rw [hb, if_neg (by decide)]; rfl
  · have hn := hV.le
    rw [hb, if_pos rfl, impl_all_f (by omega), Option.bind_some, impl_in_f, Option.bind_some, Int.toNat_natCast, Bool.true_and]
theorem setOk_spec_ev (s : Int) (l : List Int) (a : Int) : Ev (fun k => spec_SetOk.f k s l a) (setB s l a) := by
  obtain ⟨K, h⟩ := spec_GraphOk_ev s l
  refine ⟨K, fun k hk => ?_⟩
  have e := h k hk
  simp only at e ⊢
  unfold spec_SetOk.f setB
  rw [e, Option.bind_some]
  rcases gB_cases s l with ⟨hb, _⟩ | ⟨n, R, hV, rfl, rfl, hb⟩
  · rw [hb, if_neg (by decide)]; rfl
  · have hn := hV.le
    rw [hb, if_pos rfl, if_pos (by omega), all_spec hn, spec_l01In_f, Option.bind_some, Int.toNat_natCast, Bool.true_and]
end Go.Proofs.Ytlfjmklhifjalaa.P
