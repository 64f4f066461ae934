/- When a fire and its saved vertices are in order: the program and the reference answer alike. -/
import Derived.Test.YtijgmenpekgonaaG1J
import Derived.Test.YtijgmenpekgonaaG2J
import Derived.Test.YtijgmenpekgonaaQj3
namespace Go.Proofs.Ytijgmenpekgonaa.P
open Go.RowKit Go.Proofs.YtijgmenpekgonaaW.PrintWords Go.Proofs.YtijgmenpekgonaaW.PrintLast Go.Proofs.YtijgmenpekgonaaW.PrintMore Go.Proofs.Ytijgmenpekgonaa.Q
set_option linter.unusedVariables false

theorem index_k {l : List Int} {P : Int → Option Bool} {q : Int → Bool} (hl : l.length ≤ 4000000) (h : ∀ x ∈ l, P x = some (q x)) :
    ∀ d k i, l.length = i + d → d < k → ∃ r, slices_IndexFunc_int_int.l0 k l P (l.length : Int) (i : Int) = some r ∧ decide (r ≥ 0) = (l.drop i).any q := by
  intro d
  induction d with
  | zero =>
    intro k i hd hk
    obtain ⟨k, rfl⟩ : ∃ m, k = m + 1 := ⟨k - 1, by omega⟩
    refine ⟨-1, ?_, ?_⟩
    · simp only [slices_IndexFunc_int_int.l0]; rw [if_neg (by omega)]
    · rw [List.drop_eq_nil_of_le (by omega)]; rfl
  | succ d ih =>
    intro k i hd hk
    obtain ⟨k, rfl⟩ : ∃ m, k = m + 1 := ⟨k - 1, by omega⟩
    have hi : i < l.length := by omega
    have e : rd l (i : Int) = l[i] := by rw [rd_nat]; simp [List.getD_eq_getElem?_getD, hi]
    have e2 : P (rd l (i : Int)) = some (q l[i]) := by rw [e]; exact h _ (List.getElem_mem hi)
    by_cases hq : q l[i] = true
    · refine ⟨(i : Int), ?_, ?_⟩
      · simp only [slices_IndexFunc_int_int.l0]
        rw [if_pos (by omega), if_pos (by omega), if_pos (by omega), e2, Option.bind_some, if_pos hq]
      · rw [List.drop_eq_getElem_cons hi, List.any_cons, hq, decide_eq_true (by omega)]; rfl
    · obtain ⟨r, h1, h2⟩ := ih k (i + 1) (by omega) (by omega)
      refine ⟨r, ?_, ?_⟩
      · simp only [slices_IndexFunc_int_int.l0]
        rw [if_pos (by omega), if_pos (by omega), if_pos (by omega), e2, Option.bind_some, if_neg hq, wrap_succ (by omega), h1]
      · rw [List.drop_eq_getElem_cons hi, List.any_cons, h2, show q l[i] = false by simpa using hq]; rfl
theorem contains_k {l : List Int} {P : Int → Option Bool} {q : Int → Bool} (hl : l.length ≤ 4000000) (h : ∀ x ∈ l, P x = some (q x)) {k : Nat} (hk : l.length < k) :
    slices_ContainsFunc_int_int.f k l P = some (l.any q) := by
  obtain ⟨r, h1, h2⟩ := index_k hl h l.length k 0 (by omega) hk
  unfold slices_ContainsFunc_int_int.f slices_IndexFunc_int_int.f
  rw [show (0 : Int) = ((0 : Nat) : Int) from rfl, h1, Option.bind_some]
  rw [List.drop_zero] at h2
  simpa using h2
/-- Is v a vertex of a graph of s? -/
def vx (s v : Int) : Bool := decide (0 ≤ v ∧ v < s)
theorem isVertex_k {s : Int} (h1 : 1 ≤ s) (h8 : s ≤ 8) (l m : List Int) (hm : m.length ≤ 4000000) {k : Nat} (hk : m.length < k) : impl_Graph_isVertex.f k s l m = some (m.all (vx s)) := by
  unfold impl_Graph_isVertex.f
  rw [contains_k (q := fun v => !vx s v) hm ?_ hk, Option.bind_some]
  · congr 1
    rw [List.all_eq_not_any_not]
  · intro x _
    unfold impl_Graph_isVertex.p
    rw [impl_in_f, Option.bind_some, wrap_small (by omega) (by omega)]
    congr 2
    unfold vx
    rw [decide_eq_decide]
    omega
theorem hold_ev (s : Int) (l m : List Int) (hm : m.length ≤ 4000000) : Ev (fun k => impl_Graph_hold.f k s l m) (gB s l && m.all (vx s)) := by
  obtain ⟨K, h⟩ := impl_GraphOk_ev s l
  refine ⟨K + m.length + 1, fun k hk => ?_⟩
  have e := h k (by omega)
  simp only at e
  show impl_Graph_hold.f k s l m = _
  unfold impl_Graph_hold.f
  rw [e, Option.bind_some]
  rcases gB_cases s l with ⟨hb, _⟩ | ⟨n, R, hV, rfl, rfl, hb⟩
  · rw [hb]; rfl
  · have := hV.pos
    have := hV.le
    rw [hb, if_pos rfl, isVertex_k (by omega) (by omega) _ _ hm (by omega)]
    rfl
theorem vertex_spec (s : Int) (l : List Int) (v : Int) : spec_l02Vertex.f s l v = some (vx s v) := by
  unfold spec_l02Vertex.f vx
  by_cases h : v ≥ 0
  · rw [if_pos h]; congr 1; rw [decide_eq_decide]; omega
  · rw [if_neg h, decide_eq_false (by omega)]

/-- A fire in order. -/
noncomputable def fireB (s : Int) (l : List Int) (a : Int) (p : List Int) : Bool := (gB s l && vx s a) && (decide (p.length ≤ 8) && p.all (fun v => decide (v = -1) || vx s v))
theorem fire_impl (s : Int) (l : List Int) (a : Int) (p : List Int) : Ev (fun k => impl_FireOk.f k s l a p) (fireB s l a p) := by
  obtain ⟨K, h⟩ := hold_ev s l [a] (by simp)
  refine ⟨K + 10, fun k hk => ?_⟩
  have e := h k (by omega)
  simp only [List.all_cons, List.all_nil, Bool.and_true] at e
  show impl_FireOk.f k s l a p = _
  unfold impl_FireOk.f fireB
  rw [e, Option.bind_some]
  rcases gB_cases s l with ⟨hb, _⟩ | ⟨n, R, hV, rfl, rfl, hb⟩
  · rw [hb]; rfl
  · have := hV.pos
    have := hV.le
    rw [hb, Bool.true_and]
    by_cases hv : vx (n : Int) a = true
    · rw [if_pos hv, hv, Bool.true_and]
      by_cases hp : p.length ≤ 8
      · rw [if_pos (by omega), decide_eq_true hp, contains_k (q := fun v => !(decide (v = -1) || vx (n : Int) v)) (by omega) ?_ (by omega), Option.bind_some]
        · rw [List.all_eq_not_any_not]
          rfl
        · intro x _
          unfold impl_FireOk.p
          by_cases hx : x = -1
          · rw [if_pos hx, decide_eq_true hx]; rfl
          · rw [if_neg hx, decide_eq_false hx, isVertex_k (by omega) (by omega) _ _ (by simp) (by simp only [List.length_singleton]; omega), Option.bind_some]
            simp
      · rw [if_neg (by omega), decide_eq_false hp]; rfl
    · rw [if_neg hv, show vx (n : Int) a = false by simpa using hv]; rfl
theorem fire_loop (s : Int) (l p : List Int) (hp : p.length ≤ 8) : Ev (fun k => spec_FireOk.l0 k p (p.length : Int) 0 s l) (p.all (fun v => decide (v = -1) || vx s v)) := by
  refine upto_ev (fun k i => spec_FireOk.l0 k p (p.length : Int) (i : Int) s l) p.length (fun i => p.all (fun v => decide (v = -1) || vx s v) = (p.drop i).all (fun v => decide (v = -1) || vx s v)) _ ?_ ?_ 0 (Nat.zero_le _) (by rw [List.drop_zero])
  · intro i hi hinv ih
    rw [List.drop_eq_getElem_cons hi, List.all_cons] at hinv
    have e : rd p (i : Int) = p[i] := by rw [rd_nat]; simp [List.getD_eq_getElem?_getD, hi]
    by_cases h1 : p[i] = -1
    · refine Ev.late_step 0 (fun k _ => ?_) (ih (by rw [hinv, decide_eq_true h1, Bool.true_or, Bool.true_and]))
      simp only [spec_FireOk.l0]
      rw [if_pos (by omega), if_pos (by omega), if_pos (by omega), e, if_pos h1, wrap_succ (by omega)]
    · rw [decide_eq_false h1, Bool.false_or] at hinv
      by_cases h2 : vx s p[i] = true
      · refine Ev.late_step 0 (fun k _ => ?_) (ih (by rw [hinv, h2, Bool.true_and]))
        simp only [spec_FireOk.l0]
        rw [if_pos (by omega), if_pos (by omega), if_pos (by omega), e, if_neg h1, vertex_spec, Option.bind_some, if_pos h2, wrap_succ (by omega)]
      · rw [show vx s p[i] = false by simpa using h2, Bool.false_and] at hinv
        rw [hinv]
        refine Ev.one fun k => ?_
        simp only [spec_FireOk.l0]
        rw [if_pos (by omega), if_pos (by omega), if_pos (by omega), e, if_neg h1, vertex_spec, Option.bind_some, if_neg h2]
  · intro hinv
    rw [hinv, List.drop_length]
    refine Ev.one fun k => ?_
    simp only [spec_FireOk.l0]
    rw [if_neg (by omega)]
    rfl
theorem fire_spec (s : Int) (l : List Int) (a : Int) (p : List Int) : Ev (fun k => spec_FireOk.f k s l a p) (fireB s l a p) := by
  have hj : Ev (fun k => spec_FireOk.j0 k p (decide ((p.length : Int) > 8)) s l) (decide (p.length ≤ 8) && p.all (fun v => decide (v = -1) || vx s v)) := by
    by_cases hp : p.length ≤ 8
    · rw [decide_eq_false (by omega), decide_eq_true hp, Bool.true_and]
      refine Ev.late_step 0 (fun k _ => ?_) (fire_loop s l p hp)
      simp only [spec_FireOk.j0]
      rw [if_neg (by decide)]
    · rw [decide_eq_true (by omega), decide_eq_false hp, Bool.false_and]
      exact Ev.one fun k => by simp only [spec_FireOk.j0]; rw [if_pos trivial]
  have hj2 : Ev (fun k => spec_FireOk.j0 k p true s l) false := Ev.one fun k => by simp only [spec_FireOk.j0]; rw [if_pos trivial]
  obtain ⟨K, h⟩ := spec_GraphOk_ev s l
  obtain ⟨K1, h1⟩ := hj
  obtain ⟨K2, h2⟩ := hj2
  refine ⟨K + K1 + K2, fun k hk => ?_⟩
  have e := h k (by omega)
  have e1 := h1 k (by omega)
  have e2 := h2 k (by omega)
  simp only at e e1 e2
  show spec_FireOk.f k s l a p = _
  unfold spec_FireOk.f fireB
  rw [e, Option.bind_some, vertex_spec, Option.bind_some, e1, e2]
  cases gB s l with
  | false => rfl
  | true =>
    cases vx s a with
    | false => rfl
    | true => rfl
end Go.Proofs.Ytijgmenpekgonaa.P
