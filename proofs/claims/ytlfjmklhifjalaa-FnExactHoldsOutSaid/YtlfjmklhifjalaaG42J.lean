/- How long guards hold out: the program and the reference answer alike. -/
import Derived.Test.YtlfjmklhifjalaaG40J
import Derived.Test.YtlfjmklhifjalaaQj1
import Derived.Test.YtlfjmklhifjalaaQj0
namespace Go.Proofs.Ytlfjmklhifjalaa.P
open Go.RowKit Go.Proofs.YtlfjmklhifjalaaW.PrintWords Go.Proofs.YtlfjmklhifjalaaW.PrintLast Go.Proofs.YtlfjmklhifjalaaW.PrintMore Go.Proofs.Ytlfjmklhifjalaa.Q
set_option linter.unusedVariables false

section
variable {n : Nat} {R : Nat → Nat}
theorem out_both (hV : V n R) (l : List Int) (hl : l.length ≤ 100) (hx : l.all (vx (n : Int)) = true) : ∀ (d i S : Nat), l.length = i + d → S < 2 ^ n →
    ∃ r, Ev (fun k => impl_HoldsOut.l0 k (S : Int) l l (l.length : Int) (i : Int) (n : Int) (rows n R)) r ∧ Ev (fun k => spec_HoldsOut.l1 k (S : Int) l l (l.length : Int) (i : Int) (n : Int) (rows n R)) r := by
  intro d
  induction d with
  | zero =>
    intro i S hd hS
    refine ⟨(l.length : Int), Ev.one fun k => ?_, Ev.one fun k => ?_⟩
    · simp only [impl_HoldsOut.l0]; rw [if_neg (by omega)]
    · simp only [spec_HoldsOut.l1]; rw [if_neg (by omega)]
  | succ d ih =>
    intro i S hd hS
    have hi : i < l.length := by omega
    have hv := List.all_eq_true.1 hx _ (List.getElem_mem hi)
    unfold vx at hv
    have hv := of_decide_eq_true hv
    obtain ⟨u, hu⟩ : ∃ u : Nat, l[i] = (u : Int) := ⟨l[i].toNat, by omega⟩
    have hun : u < n := by omega
    have hr : rd l (i : Int) = (u : Int) := by rw [rd_nat, ← hu]; simp [List.getD_eq_getElem?_getD, hi]
    obtain ⟨K, h⟩ := answers_ev hV (n : Int) hS hun
    obtain ⟨K1, h1⟩ := answers_spec_ev hV hS hun
    have hlt := ansL_lt (R := R) hV hS hun
    generalize hA : ansL n R S u = A at h h1 hlt
    cases A with
    | nil =>
      refine ⟨(i : Int), Ev.late K (fun k hk => ?_), Ev.late K1 (fun k hk => ?_)⟩
      · have e := h k hk
        simp only at e
        simp only [impl_HoldsOut.l0]
        rw [if_pos (by omega), if_pos (by omega), if_pos (by omega), hr, e, Option.bind_some, if_pos (by rw [ints_len]; rfl)]
      · have e := h1 k hk
        simp only at e
        simp only [spec_HoldsOut.l1]
        rw [if_pos (by omega), if_pos (by omega), if_pos (by omega), hr, e, Option.bind_some, if_pos (by rw [ints_len]; rfl)]
    | cons x A =>
      have hlen : ((ints (x :: A)).length : Int) = (A.length : Int) + 1 := by rw [ints_len, List.length_cons]; omega
      have hx0 : rd (ints (x :: A)) 0 = (x : Int) := rfl
      obtain ⟨r, g1, g2⟩ := ih (i + 1) x (by omega) (hlt x (by simp))
      refine ⟨r, Ev.late_step K (fun k hk => ?_) g1, Ev.late_step K1 (fun k hk => ?_) g2⟩
      · have e := h k hk
        simp only at e
        simp only [impl_HoldsOut.l0]
        rw [if_pos (by omega), if_pos (by omega), if_pos (by omega), hr, e, Option.bind_some, if_neg (by omega), if_pos (by omega), hx0, wrap_succ (by omega)]
      · have e := h1 k hk
        simp only at e
        simp only [spec_HoldsOut.l1]
        rw [if_pos (by omega), if_pos (by omega), if_pos (by omega), hr, e, Option.bind_some, if_neg (by omega), if_pos (by omega), hx0, wrap_succ (by omega)]
theorem vert_loop (s : Int) (l m : List Int) (hm : m.length ≤ 100) (S : Int) {r : Int} (h : m.all (vx s) = true → Ev (fun k => spec_HoldsOut.l1 k S m m (m.length : Int) 0 s l) r) (h2 : m.all (vx s) = false → r = -1) :
    Ev (fun k => spec_HoldsOut.l0 k S m m (m.length : Int) 0 s l) r := by
  refine upto_ev (fun k i => spec_HoldsOut.l0 k S m m (m.length : Int) (i : Int) s l) m.length (fun i => m.all (vx s) = (m.drop i).all (vx s)) _ ?_ ?_ 0 (Nat.zero_le _) (by rw [List.drop_zero])
  · intro i hi hinv ih
    rw [List.drop_eq_getElem_cons hi, List.all_cons] at hinv
    have e : rd m (i : Int) = m[i] := by rw [rd_nat]; simp [List.getD_eq_getElem?_getD, hi]
    cases hx : vx s m[i] with
    | true =>
      rw [hx, Bool.true_and] at hinv
      refine Ev.late_step 0 (fun k _ => ?_) (ih hinv)
      simp only [spec_HoldsOut.l0]
      rw [if_pos (by omega), if_pos (by omega), if_pos (by omega), e, vertex_spec, hx, Option.bind_some, if_pos rfl, wrap_succ (by omega)]
    | false =>
      rw [hx, Bool.false_and] at hinv
      rw [h2 hinv]
      refine Ev.one fun k => ?_
      simp only [spec_HoldsOut.l0]
      rw [if_pos (by omega), if_pos (by omega), if_pos (by omega), e, vertex_spec, hx, Option.bind_some, if_neg (by decide)]
  · intro hinv
    rw [List.drop_length] at hinv
    refine Ev.late_step 0 (fun k _ => ?_) (h hinv)
    simp only [spec_HoldsOut.l0]
    rw [if_neg (by omega)]
end
theorem holdsOut_both (s : Int) (l : List Int) (a : Int) (m : List Int) (hm : m.length ≤ 4000000) : ∃ r, Ev (fun k => impl_HoldsOut.f k s l a m) r ∧ Ev (fun k => spec_HoldsOut.f k s l a m) r := by
  obtain ⟨K, h⟩ := setOk_ev s l a
  obtain ⟨K1, h1⟩ := setOk_spec_ev s l a
  cases hb : setB s l a with
  | false =>
    rw [hb] at h h1
    refine ⟨-1, ⟨K + 1, fun k hk => ?_⟩, ⟨K1 + 1, fun k hk => ?_⟩⟩
    · obtain ⟨k, rfl⟩ : ∃ q, k = q + 1 := ⟨k - 1, by omega⟩
      have e := h (k + 1) (by omega)
      simp only at e ⊢
      unfold impl_HoldsOut.f
      rw [e, Option.bind_some, if_neg (by decide)]
      simp only [impl_HoldsOut.j0]
      rw [if_pos trivial]
    · obtain ⟨k, rfl⟩ : ∃ q, k = q + 1 := ⟨k - 1, by omega⟩
      have e := h1 (k + 1) (by omega)
      simp only at e ⊢
      unfold spec_HoldsOut.f
      rw [e, Option.bind_some, if_neg (by decide)]
      simp only [spec_HoldsOut.j0]
      rw [if_pos trivial]
  | true =>
    obtain ⟨n, R, S, hV, rfl, rfl, rfl, hS⟩ := setB_cases hb
    rw [hb] at h h1
    have hn := hV.le
    have hpos := hV.pos
    by_cases hl : m.length ≤ 100
    · have hiv : ∀ k, m.length < k → impl_Graph_isVertex.f k (n : Int) (rows n R) m = some (m.all (vx (n : Int))) := fun k hk => isVertex_k (by omega) (by omega) _ _ (by omega) hk
      have hgen : ∃ r, (m.all (vx (n : Int)) = true → Ev (fun k => impl_HoldsOut.l0 k (S : Int) m m (m.length : Int) 0 (n : Int) (rows n R)) r ∧ Ev (fun k => spec_HoldsOut.l1 k (S : Int) m m (m.length : Int) 0 (n : Int) (rows n R)) r) ∧ (m.all (vx (n : Int)) = false → r = -1) := by
        cases hx : m.all (vx (n : Int)) with
        | true =>
          obtain ⟨r, g1, g2⟩ := out_both hV m hl hx m.length 0 S (by omega) hS
          exact ⟨r, fun _ => ⟨g1, g2⟩, fun h => by cases h⟩
        | false => exact ⟨-1, (fun h => by cases h), fun _ => rfl⟩
      obtain ⟨r, hr1, hr2⟩ := hgen
      obtain ⟨K3, h3⟩ := vert_loop (n : Int) (rows n R) m hl (S : Int) (fun hx => (hr1 hx).2) hr2
      refine ⟨r, ?_, ⟨K1 + K3 + 1, fun k hk => ?_⟩⟩
      · cases hx : m.all (vx (n : Int)) with
        | true =>
          obtain ⟨K2, h2⟩ := (hr1 hx).1
          refine ⟨K + K2 + m.length + 1, fun k hk => ?_⟩
          obtain ⟨k, rfl⟩ : ∃ q, k = q + 1 := ⟨k - 1, by omega⟩
          have e := h (k + 1) (by omega)
          have e2 := h2 k (by omega)
          simp only at e e2 ⊢
          unfold impl_HoldsOut.f
          rw [e, Option.bind_some, if_pos rfl, if_neg (by omega), hiv (k + 1) (by omega), hx, Option.bind_some]
          simp only [impl_HoldsOut.j0]
          rw [if_neg (by decide)]
          exact e2
        | false =>
          rw [hr2 hx]
          refine ⟨K + m.length + 1, fun k hk => ?_⟩
          obtain ⟨k, rfl⟩ : ∃ q, k = q + 1 := ⟨k - 1, by omega⟩
          have e := h (k + 1) (by omega)
          simp only at e ⊢
          unfold impl_HoldsOut.f
          rw [e, Option.bind_some, if_pos rfl, if_neg (by omega), hiv (k + 1) (by omega), hx, Option.bind_some]
          simp only [impl_HoldsOut.j0]
          rw [if_pos (by decide)]
      · obtain ⟨k, rfl⟩ : ∃ q, k = q + 1 := ⟨k - 1, by omega⟩
        have e := h1 (k + 1) (by omega)
        have e3 := h3 k (by omega)
        simp only at e e3 ⊢
        unfold spec_HoldsOut.f
        rw [e, Option.bind_some, if_pos rfl, decide_eq_false (by omega)]
        simp only [spec_HoldsOut.j0]
        rw [if_neg (by decide)]
        exact e3
    · refine ⟨-1, ⟨K + 1, fun k hk => ?_⟩, ⟨K1 + 1, fun k hk => ?_⟩⟩
      · obtain ⟨k, rfl⟩ : ∃ q, k = q + 1 := ⟨k - 1, by omega⟩
        have e := h (k + 1) (by omega)
        simp only at e ⊢
        unfold impl_HoldsOut.f
        rw [e, Option.bind_some, if_pos rfl, if_pos (by omega)]
        simp only [impl_HoldsOut.j0]
        rw [if_pos trivial]
      · obtain ⟨k, rfl⟩ : ∃ q, k = q + 1 := ⟨k - 1, by omega⟩
        have e := h1 (k + 1) (by omega)
        simp only at e ⊢
        unfold spec_HoldsOut.f
        rw [e, Option.bind_some, if_pos rfl, decide_eq_true (by omega)]
        simp only [spec_HoldsOut.j0]
        rw [if_pos trivial]
end Go.Proofs.Ytlfjmklhifjalaa.P
