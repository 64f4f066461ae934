/- The laws' marks: a row that was marked holds its marks. -/
import Derived.Test.YtijgmenpekgonaaG2J
import Derived.Test.YtijgmenpekgonaaQj0
namespace Go.Proofs.Ytijgmenpekgonaa.P
open Go.RowKit Go.Proofs.YtijgmenpekgonaaW.PrintWords Go.Proofs.YtijgmenpekgonaaW.PrintLast Go.Proofs.YtijgmenpekgonaaW.PrintMore Go.Proofs.Ytijgmenpekgonaa.Q
set_option linter.unusedVariables false

/-- n marks from a on. -/
def marked (a : Int) (n : Nat) : List Int := (List.range n).map fun (i : Nat) => a + (i : Int)
theorem marked_len (a : Int) (n : Nat) : (marked a n).length = n := by simp [marked]
theorem marked_at (a : Int) {n i : Nat} (h : i < n) : (marked a n).getD i 0 = a + (i : Int) := by
  simp [marked, List.getD_eq_getElem?_getD, List.getElem?_map, List.getElem?_range h]
theorem mark_ev (l : List Int) (a : Int) (hl : l.length ≤ 4000000) (h0 : 0 ≤ a) (h1 : a ≤ 4000000) : Ev (fun k => laws_markIntS.f k l a) (a + (l.length : Int), marked a l.length) := by
  have hL : Ev (fun k => laws_markIntS.l0 k l (a + ((0 : Nat) : Int)) ((0 : Nat) : Int)) (a + (l.length : Int), marked a l.length) := by
    refine up_ev' (fun k i x => laws_markIntS.l0 k x (a + (i : Int)) (i : Int)) l.length (fun i x => x.length = l.length ∧ x.take i = (marked a l.length).take i) _ ?_ ?_ 0 l (Nat.zero_le _) ⟨rfl, by simp⟩
    · rintro i x hi ⟨hx, ht⟩ ih
      refine Ev.late_step 0 (fun k _ => ?_) (ih (x.set i ((marked a l.length).getD i 0)) ⟨by rw [List.length_set, hx], take_set_succ (by rw [marked_len]; exact hi) (by omega) ht⟩)
      simp only [laws_markIntS.l0]
      rw [if_pos (by omega), if_pos (by omega), Int.toNat_natCast, marked_at a hi, wrap_succ (by omega), wrap_small (by omega) (by omega)]
      congr 1
      omega
    · rintro x ⟨hx, ht⟩
      have e : x = marked a l.length := by
        rw [List.take_of_length_le (by omega), List.take_of_length_le (by rw [marked_len]; omega)] at ht
        exact ht
      refine Ev.one fun k => ?_
      simp only [laws_markIntS.l0]
      rw [if_neg (by omega), e]
  refine Ev.late_eq 0 (fun k _ => ?_) hL
  unfold laws_markIntS.f
  congr 1
  omega
theorem markGraph_ev (s : Int) (l : List Int) (a : Int) (hl : l.length ≤ 4000000) (h0 : 0 ≤ a) (h1 : a ≤ 4000000) : Ev (fun k => laws_markGraph.f k s l a) (a + (l.length : Int), marked a l.length) := by
  obtain ⟨K, h⟩ := mark_ev l a hl h0 h1
  refine ⟨K, fun k hk => ?_⟩
  have e := h k hk
  simp only at e ⊢
  unfold laws_markGraph.f
  rw [e, Option.bind_some]
theorem held_ev (n : Nat) (a : Int) (hl : n ≤ 4000000) (h0 : 0 ≤ a) (h1 : a ≤ 4000000) : Ev (fun k => laws_heldIntS.f k (marked a n) a) (a + (n : Int)) := by
  have hL : Ev (fun k => laws_heldIntS.l0 k (marked a n) (a + ((0 : Nat) : Int)) ((0 : Nat) : Int)) (a + (n : Int)) := by
    refine upto_ev (fun k i => laws_heldIntS.l0 k (marked a n) (a + (i : Int)) (i : Int)) n (fun _ => True) _ ?_ ?_ 0 (Nat.zero_le _) trivial
    · intro i hi _ ih
      refine Ev.late_step 0 (fun k _ => ?_) (ih trivial)
      simp only [laws_heldIntS.l0]
      rw [if_pos (by rw [marked_len]; omega), if_pos (by omega), rd_nat, marked_at a hi, if_pos rfl, wrap_succ (by omega), wrap_small (by omega) (by omega)]
      congr 1
      omega
    · intro _
      refine Ev.one fun k => ?_
      simp only [laws_heldIntS.l0]
      rw [if_neg (by rw [marked_len]; omega)]
  refine Ev.late_eq 0 (fun k _ => ?_) hL
  unfold laws_heldIntS.f
  congr 1
  omega
theorem eq_self_ev (l : List Int) (hl : l.length ≤ 4000000) : Ev (fun k => laws_eqIntS.f k l l) true := by
  have h := eqIntS_ev l l hl
  rwa [decide_eq_true rfl] at h
end Go.Proofs.Ytijgmenpekgonaa.P
