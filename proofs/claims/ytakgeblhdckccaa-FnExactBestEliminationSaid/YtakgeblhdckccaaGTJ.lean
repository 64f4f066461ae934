/- The width of a graph by its table: the program and the reference answer alike. -/
import Derived.Test.YtakgeblhdckccaaG6J
import Derived.Test.YtakgeblhdckccaaQj1
namespace Go.Proofs.Ytakgeblhdckccaa.P
open Go.RowKit Go.Proofs.YtakgeblhdckccaaW.PrintWords Go.Proofs.YtakgeblhdckccaaW.PrintLast Go.Proofs.YtakgeblhdckccaaW.PrintMore Go.Proofs.Ytakgeblhdckccaa.Q
set_option linter.unusedVariables false
section
variable {n : Nat} {R : Nat → Nat}
theorem spec_row_ev (hV : V n R) {S : Nat} (hS : S < 2 ^ n - 1) {r : List Int}
    (next : ∀ t, Tab n (cost n R) t S → Ev (fun k => spec_l10Table.l0 k t ((S : Int) - 1) (n : Int) (rows n R)) r) (t : List Int) (ht : t.length = 2 ^ n) (hv : ∀ T, S < T → T < 2 ^ n → rd t (T : Int) = ((W n (cost n R) T : Nat) : Int)) (h0 : rd t (S : Int) = 8) :
    Ev (fun k => spec_l10Table.l1 k t (S : Int) 0 (n : Int) (rows n R)) r := by
  have h8 := hV.le
  have h256 := pow_le_256 h8
  have hS2 : S < 2 ^ n := by omega
  refine up_ev' (fun k m t => spec_l10Table.l1 k t (S : Int) (m : Int) (n : Int) (rows n R)) n (fun m t => t.length = 2 ^ n ∧ (∀ T, S < T → T < 2 ^ n → rd t (T : Int) = ((W n (cost n R) T : Nat) : Int)) ∧ rd t (S : Int) = ((row n (cost n R) (W n (cost n R)) S m 8 : Nat) : Int)) r ?_ ?_ 0 t (Nat.zero_le _) ⟨ht, hv, h0⟩
  · intro m t hm ⟨ht, hv, hx⟩ ih
    by_cases hb : S.testBit m = true
    · refine Ev.late_step 0 (fun k _ => ?_) (ih t ⟨ht, hv, by rw [row_succ, if_pos hb]; exact hx⟩)
      simp only [spec_l10Table.l1]
      rw [if_pos (by omega), spec_has_f (by omega) (by omega), Option.bind_some, if_pos hb, wrap_succ (by omega)]
    · have hb' : S.testBit m = false := by simpa using hb
      have hg := grows hb'
      have hl := or_bit_lt (n := n) (S := S) (v := m) (by omega) hm
      obtain ⟨K, h⟩ := around_spec_ev hV hS2 hm hb'
      obtain ⟨K2, h2⟩ := count_spec_ev (lt62 h8 (beh_lt hV hS2 hm))
      refine Ev.late_step (K + K2) (fun k hk => ?_) (ih (t.set S ((row n (cost n R) (W n (cost n R)) S (m + 1) 8 : Nat) : Int)) ⟨by simp [ht], fun T h1 h2 => ?_, rd_set_same (by omega)⟩)
      · have e := h k (by omega)
        have e2 := h2 k (by omega)
        simp only at e e2
        simp only [spec_l10Table.l1]
        rw [if_pos (by omega), spec_has_f (by omega) (by omega), Option.bind_some, if_neg hb, if_pos (by omega), if_pos (by omega), e, Option.bind_some, e2, Option.bind_some, if_pos (by omega), shl1 (by omega), or_nat (by omega) (lt62 h8 (bit_lt hm)), if_pos (by omega), if_pos (by omega), hx, hv _ hg hl, mx_nat, mn_nat, wrap_succ (by omega), Int.toNat_natCast, row_succ, if_neg hb]
        rfl
      · rw [rd_set_ne (by omega)]
        exact hv T h1 h2
  · intro t ⟨ht, hv, hx⟩
    have hT : Tab n (cost n R) t S := by
      refine ⟨ht, fun T h1 h2 => ?_⟩
      by_cases e : T = S
      · subst e
        rw [hx, W_eq, if_pos hS, row_init (cost_low hV) hS (Nat.le_refl 8) (show 8 ≤ 1000 by decide)]
      · exact hv T (by omega) h2
    refine Ev.late_step 0 (fun k _ => ?_) (next t hT)
    simp only [spec_l10Table.l1]
    rw [if_neg (by omega), wrap_small (by omega) (by omega)]
/-- The whole table. -/
def tabW (n : Nat) (c : Nat → Nat → Nat) : List Int := (List.range (2 ^ n)).map fun S => ((W n c S : Nat) : Int)
theorem tab_eq {c : Nat → Nat → Nat} {t : List Int} (h : Tab n c t 0) : t = tabW n c := by
  apply List.ext_getElem
  · simp [tabW, h.len]
  · intro i h1 h2
    have hi : i < 2 ^ n := by rw [← h.len]; exact h1
    have := h.val i (Nat.zero_le _) hi
    rw [rd_nat] at this
    simp only [List.getD_eq_getElem?_getD, List.getElem?_eq_getElem h1, Option.getD_some] at this
    simp [tabW, this]
theorem tabW_len (c : Nat → Nat → Nat) : (tabW n c).length = 2 ^ n := by simp [tabW]
theorem tabW_rd {c : Nat → Nat → Nat} {S : Nat} (hS : S < 2 ^ n) : rd (tabW n c) (S : Int) = ((W n c S : Nat) : Int) := by
  rw [rd_nat]
  simp [tabW, List.getD_eq_getElem?_getD, hS]
theorem spec_down (hV : V n R) : ∀ d, d ≤ 2 ^ n - 1 → ∀ t, Tab n (cost n R) t d → Ev (fun k => spec_l10Table.l0 k t ((d : Int) - 1) (n : Int) (rows n R)) (tabW n (cost n R)) := by
  have h8 := hV.le
  have h256 := pow_le_256 h8
  intro d
  induction d with
  | zero =>
    intro _ t ht
    rw [tab_eq ht]
    refine Ev.one fun k => ?_
    simp only [spec_l10Table.l0]
    rw [if_neg (by omega)]
  | succ d ih =>
    intro hd t ht
    have hlt := ht.len
    refine Ev.late_step 0 (fun k _ => ?_) (spec_row_ev hV (S := d) (by omega) (fun t3 h3 => ih (by omega) t3 h3) (t.set d 8) (by simp [hlt]) (fun T h1 h2 => by rw [rd_set_ne (by omega)]; exact ht.val T (by omega) h2) (rd_set_same (by omega)))
    simp only [spec_l10Table.l0]
    rw [if_pos (by omega), if_pos (by omega), if_pos (by omega), show (((d + 1 : Nat) : Int) - 1) = (d : Int) by omega, Int.toNat_natCast]
theorem table_spec_ev (hV : V n R) : Ev (fun k => spec_l10Table.f k (n : Int) (rows n R)) (tabW n (cost n R)) := by
  have h8 := hV.le
  have h1 := hV.pos
  have h256 := pow_le_256 h8
  have hp2 : 2 ≤ 2 ^ n := by
    have := Nat.pow_le_pow_right (show 0 < 2 by decide) h1
    omega
  have hT : Tab n (cost n R) (List.replicate (2 ^ n) 0) (2 ^ n - 1) := by
    refine ⟨by simp, fun S h1 h2 => ?_⟩
    rw [W_eq, if_neg (by omega), rd_nat]
    simp [List.getD_eq_getElem?_getD, h2]
  refine Ev.late_eq 0 (fun k _ => ?_) (spec_down hV (2 ^ n - 1) (Nat.le_refl _) _ hT)
  unfold spec_l10Table.f
  rw [if_pos (by omega), shl1 (by omega), if_pos (by omega), if_pos (by omega), Option.bind_some, Int.toNat_natCast, List.length_replicate, wrap_small (by omega) (by omega)]
  congr 1
  omega
end
end Go.Proofs.Ytakgeblhdckccaa.P
