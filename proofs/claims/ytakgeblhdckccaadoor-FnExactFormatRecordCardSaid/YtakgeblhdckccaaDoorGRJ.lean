/- Records as text. -/
import Derived.Test.YtakgeblhdckccaaDoorGFJ
import Derived.Test.YtakgeblhdckccaaDoorQj1
import Derived.Test.YtakgeblhdckccaaDoorQj0
namespace Go.Proofs.YtakgeblhdckccaaDoor.P
open Go.RowKit Go.Proofs.YtakgeblhdckccaaDoorW.PrintWords Go.Proofs.YtakgeblhdckccaaDoorW.PrintLast Go.Proofs.YtakgeblhdckccaaDoorW.PrintMore Go.Proofs.YtakgeblhdckccaaDoor.Q
set_option linter.unusedVariables false
theorem join_len2 (xs : List (List UInt8)) (h : ∀ x ∈ xs, x.length ≤ 50) (sep : List UInt8) (hs : sep.length ≤ 1) : (Lib.join xs sep).length ≤ 51 * xs.length := by
  have hlens : ∀ r : List (List UInt8), (∀ x ∈ r, x.length ≤ 50) → Lib.lens r ≤ 50 * r.length := by
    intro r
    induction r with
    | nil => intro _; simp [Lib.lens]
    | cons y r ih =>
      intro h
      have h1 := h y (by simp)
      have h2 := ih (fun x hx => h x (by simp [hx]))
      simp only [Lib.lens, List.map_cons, List.sum_cons, List.length_cons] at h2 ⊢
      omega
  cases xs with
  | nil => simp [Lib.join_nil]
  | cons x r =>
    rw [Lib.join_cons, List.length_append, Lib.joinTail_length]
    have h1 := h x (by simp)
    have h2 := hlens r (fun y hy => h y (by simp [hy]))
    have h3 : sep.length * r.length ≤ 1 * r.length := Nat.mul_le_mul_right _ hs
    rw [List.length_cons]
    omega
theorem specJoin2_ev (c : UInt8) (xs : List (List UInt8)) (hx : ∀ x ∈ xs, x.length ≤ 50) (hl : xs.length ≤ 1000000) : Ev (fun k => spec_Join.f k (xs.map B) (B [c])) (B (Lib.join xs [c])) := by
  have hL : Ev (fun k => spec_Join.l0 k (B [c]) (B (Lib.join (xs.take 0) [c])) (xs.map B) (((xs.map B).length : Nat) : Int) ((0 : Nat) : Int)) (B (Lib.join xs [c])) := by
    refine upto_ev (fun k i => spec_Join.l0 k (B [c]) (B (Lib.join (xs.take i) [c])) (xs.map B) (((xs.map B).length : Nat) : Int) (i : Int)) xs.length (fun _ => True) _ ?_ ?_ 0 (Nat.zero_le _) trivial
    · intro i hi _ ih
      refine Ev.late_step 0 (fun k _ => ?_) (ih trivial)
      have hj := join_len2 (xs.take i) (fun x h => hx x (List.mem_of_mem_take h)) [c] (by simp)
      rw [List.length_take] at hj
      have hxi := hx xs[i] (List.getElem_mem hi)
      have e0 : xs.take (i + 1) = xs.take i ++ [xs[i]] := by simp
      simp only [spec_Join.l0]
      rw [List.length_map, if_pos (by omega), if_pos (by omega), if_pos (by omega), rdB xs i hi]
      by_cases h0 : i = 0
      · subst h0
        rw [if_neg (by omega), B_size, B_size, if_pos (by omega), B_app, wrap_succ (by omega), e0]
        simp [Lib.join_nil, Lib.join_one]
      · have hne : xs.take i ≠ [] := by
          intro h
          have := congrArg List.length h
          rw [List.length_take, List.length_nil] at this
          omega
        rw [if_pos (by omega), B_size, B_size, if_pos (by simp; omega), B_app, B_size, B_size, if_pos (by simp; omega), B_app, wrap_succ (by omega), e0, join_snoc _ _ _ hne]
    · intro _
      refine Ev.one fun k => ?_
      simp only [spec_Join.l0]
      rw [List.length_map, if_neg (by omega), List.take_length]
  exact hL
theorem implJoin2_f (c : UInt8) (xs : List (List UInt8)) (hx : ∀ x ∈ xs, x.length ≤ 50) (hl : xs.length ≤ 1000000) : strings_Join.f (xs.map B) (B [c]) = some (B (Lib.join xs [c])) := by
  have e : strings_Join.l (xs.map B) (B [c]) = Lib.join xs [c] := by
    unfold strings_Join.l
    rw [B_data, List.map_map]
    congr 1
    conv => rhs; rw [← List.map_id xs]
    apply List.map_congr_left
    intro x _
    exact B_data x
  have hj := join_len2 xs hx [c] (by simp)
  unfold strings_Join.f
  rw [e, if_pos ⟨by rw [List.length_map]; omega, by omega⟩]
  rfl
/-- A record's pairs as text. -/
def pair (x y : Int) : List UInt8 := Lib.itoa x ++ [58] ++ Lib.itoa y
def pairs (l m : List Int) (i : Nat) : List (List UInt8) := (List.range i).map fun j => pair (l.getD j 0) (m.getD j 0)
def I64 (l : List Int) : Prop := ∀ x ∈ l, -9223372036854775808 ≤ x ∧ x ≤ 9223372036854775807
theorem I64.at_ {l : List Int} (h : I64 l) {i : Nat} (hi : i < l.length) : -9223372036854775808 ≤ l.getD i 0 ∧ l.getD i 0 ≤ 9223372036854775807 := by
  have e : l.getD i 0 = l[i] := by simp [List.getD_eq_getElem?_getD, hi]
  rw [e]
  exact h _ (List.getElem_mem hi)
theorem pair_len {x y : Int} (hx : -9223372036854775808 ≤ x ∧ x ≤ 9223372036854775807) (hy : -9223372036854775808 ≤ y ∧ y ≤ 9223372036854775807) : (pair x y).length ≤ 50 := by
  have h1 := itoa_len x hx.1 hx.2
  have h2 := itoa_len y hy.1 hy.2
  simp [pair]
  omega
theorem pairs_len {l m : List Int} (hl : I64 l) (hm : I64 m) (hlm : m.length = l.length) : ∀ x ∈ pairs l m l.length, x.length ≤ 50 := by
  intro x hx
  obtain ⟨j, hj, rfl⟩ := List.mem_map.1 hx
  rw [List.mem_range] at hj
  exact pair_len (hl.at_ hj) (hm.at_ (by omega))
theorem pairs_succ (l m : List Int) (i : Nat) : (pairs l m i).map B ++ [B (pair (l.getD i 0) (m.getD i 0))] = (pairs l m (i + 1)).map B := by
  unfold pairs
  rw [List.range_succ, List.map_append, List.map_append]
  rfl
theorem formatRecord_both (l m : List Int) (hl : l.length ≤ 1000000) (hI : I64 l) (hJ : I64 m) : ∃ r, Ev (fun k => impl_FormatRecord.f k l m) r ∧ Ev (fun k => spec_FormatRecord.f k l m) r := by
  by_cases hn : l.length = 0
  · refine ⟨⟨#[45]⟩, Ev.one fun k => ?_, Ev.one fun k => ?_⟩
    · unfold impl_FormatRecord.f
      rw [if_pos (by omega)]
      simp [impl_FormatRecord.j0]
    · unfold spec_FormatRecord.f
      rw [if_pos (by omega)]
      simp [spec_FormatRecord.j0]
  · by_cases hlm : m.length = l.length
    case neg =>
      have hb : ((l.length : Int) != (m.length : Int)) = true := bne_iff_ne.mpr (by omega)
      refine ⟨⟨#[45]⟩, Ev.one fun k => ?_, Ev.one fun k => ?_⟩
      · unfold impl_FormatRecord.f
        rw [if_neg (by omega), hb]
        simp [impl_FormatRecord.j0]
      · unfold spec_FormatRecord.f
        rw [if_neg (by omega), hb]
        simp [spec_FormatRecord.j0]
    · have hb : ((l.length : Int) != (m.length : Int)) = false := bne_eq_false_iff_eq.mpr (by omega)
      have hx := pairs_len hI hJ hlm
      have hpl : (pairs l m l.length).length = l.length := by simp [pairs]
      have c58 : (⟨#[58]⟩ : ByteArray) = B [58] := rfl
      have c32 : (⟨#[32]⟩ : ByteArray) = B [32] := rfl
      refine ⟨B (Lib.join (pairs l m l.length) [32]), ?_, ?_⟩
      · have hL : Ev (fun k => impl_FormatRecord.l0 k ((pairs l m 0).map B) l (l.length : Int) ((0 : Nat) : Int) l m) (B (Lib.join (pairs l m l.length) [32])) := by
          refine upto_ev (fun k i => impl_FormatRecord.l0 k ((pairs l m i).map B) l (l.length : Int) (i : Int) l m) l.length (fun _ => True) _ ?_ ?_ 0 (Nat.zero_le _) trivial
          · intro i hi _ ih
            obtain ⟨a1, a2⟩ := hI.at_ hi
            obtain ⟨b1, b2⟩ := hJ.at_ (i := i) (by omega)
            have n1 := itoa_len _ a1 a2
            have n2 := itoa_len _ b1 b2
            refine Ev.late_step 0 (fun k _ => ?_) (ih trivial)
            simp only [impl_FormatRecord.l0]
            rw [if_pos (by omega), if_pos (by omega), if_pos (by omega), rd_nat, rd_nat, formatInt_impl _ a1 a2, Option.bind_some, B_size, if_pos (by omega), if_pos (by omega), formatInt_impl _ b1 b2, Option.bind_some, c58, B_app, B_size, B_size, if_pos (by rw [List.length_append, List.length_singleton]; omega), B_app, if_pos (by simp [pairs]; omega), wrap_succ (by omega), ← pairs_succ]
            rfl
          · intro _
            refine Ev.one fun k => ?_
            simp only [impl_FormatRecord.l0]
            rw [if_neg (by omega), c32, implJoin2_f _ _ hx (by omega), Option.bind_some]
        refine Ev.late_step 0 (fun k _ => ?_) hL
        unfold impl_FormatRecord.f
        rw [if_neg (by omega), hb]
        simp only [impl_FormatRecord.j0, Bool.false_eq_true, if_false]
        rfl
      · have hL : Ev (fun k => spec_FormatRecord.l0 k ((pairs l m 0).map B) l (l.length : Int) ((0 : Nat) : Int) l m) (B (Lib.join (pairs l m l.length) [32])) := by
          refine upto_ev (fun k i => spec_FormatRecord.l0 k ((pairs l m i).map B) l (l.length : Int) (i : Int) l m) l.length (fun _ => True) _ ?_ ?_ 0 (Nat.zero_le _) trivial
          · intro i hi _ ih
            obtain ⟨a1, a2⟩ := hI.at_ hi
            obtain ⟨b1, b2⟩ := hJ.at_ (i := i) (by omega)
            have n1 := itoa_len _ a1 a2
            have n2 := itoa_len _ b1 b2
            obtain ⟨K, h⟩ := formatInt_spec _ a1 a2
            obtain ⟨K1, h1⟩ := formatInt_spec _ b1 b2
            refine Ev.late_step (K + K1) (fun k hk => ?_) (ih trivial)
            have e := h k (by omega)
            have e1 := h1 k (by omega)
            simp only at e e1
            simp only [spec_FormatRecord.l0]
            rw [if_pos (by omega), if_pos (by omega), if_pos (by omega), rd_nat, rd_nat, e, Option.bind_some, B_size, if_pos (by omega), if_pos (by omega), e1, Option.bind_some, c58, B_app, B_size, B_size, if_pos (by rw [List.length_append, List.length_singleton]; omega), B_app, if_pos (by simp [pairs]; omega), wrap_succ (by omega), ← pairs_succ]
            rfl
          · intro _
            obtain ⟨K, h⟩ := specJoin2_ev 32 (pairs l m l.length) hx (by omega)
            refine Ev.late K (fun k hk => ?_)
            have e := h k hk
            simp only at e
            simp only [spec_FormatRecord.l0]
            rw [if_neg (by omega), c32, e, Option.bind_some]
        refine Ev.late_step 0 (fun k _ => ?_) hL
        unfold spec_FormatRecord.f
        rw [if_neg (by omega), hb]
        simp only [spec_FormatRecord.j0, Bool.false_eq_true, if_false]
        rfl
end Go.Proofs.YtakgeblhdckccaaDoor.P
