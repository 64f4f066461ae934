/- What the laws' own helpers answer: a copy of a list is that list, and an untouched copy is told as untouched. -/
import Derived.Test.YtlfjmklhifjalaaDoorG0
import Derived.Test.YtlfjmklhifjalaaDoorQj1
namespace Go.Proofs.YtlfjmklhifjalaaDoor.P
open Go.RowKit Go.Proofs.YtlfjmklhifjalaaDoorW.PrintWords Go.Proofs.YtlfjmklhifjalaaDoorW.PrintLast Go.Proofs.YtlfjmklhifjalaaDoorW.PrintMore Go.Proofs.YtlfjmklhifjalaaDoor.Q
set_option linter.unusedVariables false

theorem sz_ev {l : List Int} {a : Int} (hl : l.length ≤ 2 ^ 45) (h0 : -(2 ^ 62) ≤ a) (h1 : a ≤ 1000000) :
    (laws_szIntS.f l a = some (-1)) ∨ (laws_szIntS.f l a = some (a - (l.length : Int)) ∧ (l.length : Int) ≤ a) := by
  unfold laws_szIntS.f
  rw [wrap_small (by omega) (by omega)]
  by_cases h : a - (l.length : Int) < 0
  · exact .inl (if_pos h)
  · exact .inr ⟨if_neg h, by omega⟩
theorem szG_ev {s : Int} {l : List Int} {a : Int} (hl : l.length ≤ 2 ^ 45) (h0 : -(2 ^ 62) ≤ a) (h1 : a ≤ 1000000) :
    (laws_szGraph.f s l a = some (-1)) ∨ (laws_szGraph.f s l a = some (a - (l.length : Int)) ∧ (l.length : Int) ≤ a) := by
  unfold laws_szGraph.f
  rcases sz_ev hl h0 h1 with h | ⟨h, h2⟩
  · rw [h]; exact .inl rfl
  · rw [h]; exact .inr ⟨by rw [Option.bind_some, if_neg (by omega)], h2⟩
theorem room_ev (n : Nat) : laws_roomBehind.f (n : Int) = some ((roomOf n : Nat) : Int) := by
  unfold laws_roomBehind.f roomOf
  rw [Int.tmod_eq_emod_of_nonneg (by omega), Int.tmod_eq_emod_of_nonneg (by omega)]
  by_cases h : n % 6 = 5
  · rw [if_pos (by omega), if_pos h]; rfl
  · rw [if_neg (by omega), if_neg h]
    by_cases h2 : n % 3 = 0
    · rw [if_pos (by omega), if_pos h2]; rfl
    · rw [if_neg (by omega), if_neg h2]
theorem room_le (n : Nat) : roomOf n ≤ n + 1 := by unfold roomOf; split <;> (try split) <;> omega
theorem take_set_ge {l : List Int} {n i : Nat} (x : Int) (h : n ≤ i) : (l.set i x).take n = l.take n := by
  apply List.ext_getElem?
  intro j
  by_cases hj : j < n
  · rw [List.getElem?_take_of_lt hj, List.getElem?_take_of_lt hj, List.getElem?_set_ne (by omega)]
  · rw [List.getElem?_eq_none (by simp; omega), List.getElem?_eq_none (by simp; omega)]
theorem take_set_succ {l m : List Int} {i : Nat} (hm : i < m.length) (hl : i < l.length) (h : l.take i = m.take i) : (l.set i (m.getD i 0)).take (i + 1) = m.take (i + 1) := by
  rw [List.take_add_one, List.take_add_one, take_set_ge _ (Nat.le_refl i), h]
  congr 1
  rw [List.getElem?_set_self hl, List.getElem?_eq_getElem hm]
  simp [List.getD_eq_getElem?_getD, hm]

theorem toIntS_l1 {l : List Int} (hl : l.length ≤ 1000000) (x : List Int) (hx : x.length ≤ 3000000) (hxl : l.length ≤ x.length) (ht : x.take l.length = l) :
    Ev (fun k => laws_toIntS.l1 k l x (l.length : Int)) l := by
  refine up_ev' (fun k i x => laws_toIntS.l1 k l x (i : Int)) x.length (fun i y => l.length ≤ i ∧ y.length = x.length ∧ y.take l.length = l) l ?_ ?_ l.length x hxl ⟨Nat.le_refl _, rfl, ht⟩
  · intro i y hi ⟨h1, h2, h3⟩ ih
    refine Ev.late_step 0 (fun k _ => ?_) (ih (y.set i (-7000000000000000101)) ⟨by omega, by simp [h2], by rw [take_set_ge _ h1, h3]⟩)
    simp only [laws_toIntS.l1]
    rw [if_pos (by omega), if_pos (by omega), wrap_succ (by omega), Int.toNat_natCast]
  · intro y ⟨h1, h2, h3⟩
    refine Ev.one fun k => ?_
    simp only [laws_toIntS.l1]
    rw [if_neg (by omega), if_pos (by omega), if_pos (by omega), Int.toNat_natCast, h3]
theorem toIntS_ev {l : List Int} (b : Bool) (hl : l.length ≤ 1000000) : Ev (fun k => laws_toIntS.f k l b) l := by
  have hj : Ev (fun k => laws_toIntS.j0 k l false) l := by
    have hr := room_le l.length
    have hM : (wrap64 ((l.length : Int) + ((roomOf l.length : Nat) : Int))) = ((l.length + roomOf l.length : Nat) : Int) := by
      rw [wrap_small (by omega) (by omega)]; omega
    have h0 : Ev (fun k => laws_toIntS.l0 k l (List.replicate (l.length + roomOf l.length) 0) 0) l := by
      refine up_ev' (fun k i x => laws_toIntS.l0 k l x (i : Int)) l.length (fun i y => y.length = l.length + roomOf l.length ∧ y.take i = l.take i) l ?_ ?_ 0 _ (Nat.zero_le _) ⟨by simp, by simp⟩
      · intro i y hi ⟨h1, h2⟩ ih
        refine Ev.late_step 0 (fun k _ => ?_) (ih (y.set i (l.getD i 0)) ⟨by simp [h1], take_set_succ hi (by omega) h2⟩)
        simp only [laws_toIntS.l0]
        rw [if_pos (by omega), if_pos (by omega), if_pos (by omega), wrap_succ (by omega), Int.toNat_natCast, rd_nat]
      · intro y ⟨h1, h2⟩
        refine Ev.late_step 0 (fun k _ => ?_) (toIntS_l1 hl y (by omega) (by omega) (by rw [h2, List.take_length]))
        simp only [laws_toIntS.l0]
        rw [if_neg (by omega)]
    refine Ev.late_step 0 (fun k _ => ?_) h0
    simp only [laws_toIntS.j0]
    rw [if_neg (by decide), room_ev, Option.bind_some, hM, if_pos (by omega), Int.toNat_natCast, if_pos (by omega)]
  cases b with
  | false => exact Ev.late_eq 0 (fun k _ => by unfold laws_toIntS.f; rw [if_neg (by decide)]) hj
  | true =>
    by_cases h : ((l.length : Int) == 0) = true
    · have : l = [] := by
        have := beq_iff_eq.1 h
        exact List.length_eq_zero_iff.1 (by omega)
      subst this
      refine Ev.one fun k => ?_
      unfold laws_toIntS.f
      rw [if_pos rfl]
      rfl
    · refine Ev.late_eq 0 (fun k _ => ?_) hj
      unfold laws_toIntS.f
      rw [if_pos rfl]
      rw [show ((l.length : Int) == 0) = false by simpa using h]
theorem toGraph_ev {s : Int} {l : List Int} (b : Bool) (hl : l.length ≤ 1000000) : Ev (fun k => laws_toGraph.f k s l b) (s, l) := by
  obtain ⟨K, h⟩ := toIntS_ev b hl
  exact ⟨K, fun k hk => by have e := h k hk; simp only at e ⊢; unfold laws_toGraph.f; rw [e]; rfl⟩
theorem eqIntS_ev (l m : List Int) (hl : l.length ≤ 4000000) : Ev (fun k => laws_eqIntS.f k l m) (decide (l = m)) := by
  by_cases h : l.length = m.length
  · have hL : Ev (fun k => laws_eqIntS.l0 k l m 0) (decide (l = m)) := by
      refine upto_ev (fun k i => laws_eqIntS.l0 k l m (i : Int)) l.length (fun i => l.take i = m.take i) _ ?_ ?_ 0 (Nat.zero_le _) rfl
      · intro i hi hinv ih
        by_cases he : l.getD i 0 = m.getD i 0
        · refine Ev.late_step 0 (fun k _ => ?_) (ih ?_)
          · simp only [laws_eqIntS.l0]
            rw [if_pos (by omega), if_pos (by omega), if_pos (by omega), if_pos (by rw [rd_nat, rd_nat, he]), wrap_succ (by omega)]
          · rw [List.take_add_one, List.take_add_one, hinv]
            congr 1
            rw [List.getD_eq_getElem?_getD, List.getD_eq_getElem?_getD, List.getElem?_eq_getElem hi, List.getElem?_eq_getElem (by omega)] at he
            rw [List.getElem?_eq_getElem hi, List.getElem?_eq_getElem (by omega)]
            simpa using he
        · rw [decide_eq_false (fun e => he (by rw [e]))]
          refine Ev.one fun k => ?_
          simp only [laws_eqIntS.l0]
          rw [if_pos (by omega), if_pos (by omega), if_pos (by omega), if_neg (by rw [rd_nat, rd_nat]; exact he)]
      · intro hinv
        rw [List.take_length, h, List.take_length] at hinv
        rw [decide_eq_true hinv]
        refine Ev.one fun k => ?_
        simp only [laws_eqIntS.l0]
        rw [if_neg (by omega)]
    exact Ev.late_eq 0 (fun k _ => by unfold laws_eqIntS.f; rw [if_pos (by omega)]) hL
  · rw [decide_eq_false (fun e => h (by rw [e]))]
    refine Ev.some fun k => ?_
    unfold laws_eqIntS.f
    rw [if_neg (by omega)]
theorem intactIntS_ev {l : List Int} (hl : l.length ≤ 1000000) : Ev (fun k => laws_intactIntS.f k l l) true := by
  have h1 := spared_len l
  have h2 := room_le l.length
  have h := eqIntS_ev (spared l) (spared l) (by omega)
  rw [decide_eq_true rfl] at h
  exact Ev.late_eq 0 (fun k _ => by unfold laws_intactIntS.f; rw [if_pos ⟨rfl, by omega⟩]) h
theorem intactGraph_ev {s : Int} {l : List Int} (hl : l.length ≤ 1000000) : Ev (fun k => laws_intactGraph.f k s l s l) true := by
  obtain ⟨K, h⟩ := intactIntS_ev hl
  exact ⟨K, fun k hk => by have e := h k hk; simp only at e ⊢; unfold laws_intactGraph.f; rw [if_pos rfl, e]; rfl⟩
end Go.Proofs.YtlfjmklhifjalaaDoor.P
