/- Who is met behind a vertex through eliminated ones: the reference's answer. -/
import Derived.Test.YtakgeblhdckccaaG6PJ
import Derived.Test.YtakgeblhdckccaaQj1
namespace Go.Proofs.Ytakgeblhdckccaa.P
open Go.RowKit Go.Proofs.YtakgeblhdckccaaW.PrintWords Go.Proofs.YtakgeblhdckccaaW.PrintLast Go.Proofs.YtakgeblhdckccaaW.PrintMore Go.Proofs.Ytakgeblhdckccaa.Q
set_option linter.unusedVariables false

/-! ### the neighbors behind v -/
/-- Who is met behind v when S is gone. -/
def beh (n : Nat) (R : Nat → Nat) (S v : Nat) : Nat := sd (sd (near R (part n R (S ||| 2 ^ v) v)) S) (2 ^ v)
def cost (n : Nat) (R : Nat → Nat) (S v : Nat) : Nat := cnt (beh n R S v)
section
variable {n : Nat} {R : Nat → Nat} {S v : Nat}
theorem or_self_bit (S v : Nat) : (S ||| 2 ^ v).testBit v = true := by rw [Nat.testBit_or, bit_self, Bool.or_true]
theorem part_lt (hS : S < 2 ^ n) (hv : v < n) : part n R (S ||| 2 ^ v) v < 2 ^ n := grow_lt (or_bit_lt hS hv) hv n
theorem beh_lt (hV : V n R) (hS : S < 2 ^ n) (hv : v < n) : beh n R S v < 2 ^ n := sd_lt _ (sd_lt _ (near_lt hV (part_lt hS hv)))
/-- The reference's set of those who are met behind v. -/
theorem around_step (hb : S.testBit v = false) (i : Nat) : grow R (S ||| 2 ^ v) v i ||| (near R (grow R (S ||| 2 ^ v) v i) &&& S) = grow R (S ||| 2 ^ v) v (i + 1) := by
  have hg := grow_bits (R := R) (or_self_bit S v) i
  apply set_ext
  intro j
  rw [grow, Nat.testBit_or, Nat.testBit_and, Nat.testBit_and, Nat.testBit_or, bit_eq]
  cases hj : (grow R (S ||| 2 ^ v) v i).testBit j with
  | true =>
    have h1 := hg.2 j hj
    rw [Nat.testBit_or, bit_eq] at h1
    rw [near_self R hj, h1]; rfl
  | false =>
    have hne : v ≠ j := by
      intro e
      rw [e] at hg
      rw [e] at hj
      rw [hg.1] at hj
      cases hj
    rw [decide_eq_false hne, Bool.or_false, Bool.false_or]
theorem around_spec_ev (hV : V n R) (hS : S < 2 ^ n) (hv : v < n) (hb : S.testBit v = false) : Ev (fun k => spec_l10Around.f k (n : Int) (rows n R) (S : Int) (v : Int)) ((beh n R S v : Nat) : Int) := by
  have hn := hV.le
  have hDl := or_bit_lt hS hv
  have hL : Ev (fun k => spec_l10Around.l0 k (S : Int) (v : Int) ((grow R (S ||| 2 ^ v) v 0 : Nat) : Int) ((0 : Nat) : Int) (n : Int) (rows n R)) ((beh n R S v : Nat) : Int) := by
    refine upto_ev (fun k i => spec_l10Around.l0 k (S : Int) (v : Int) ((grow R (S ||| 2 ^ v) v i : Nat) : Int) (i : Int) (n : Int) (rows n R)) n (fun _ => True) _ ?_ ?_ 0 (Nat.zero_le _) trivial
    · intro i hi _ ih
      have hg := grow_lt (R := R) hDl hv i
      obtain ⟨K, h⟩ := near_spec_ev hV (n : Int) hg
      refine Ev.late_step K (fun k hk => ?_) (ih trivial)
      have e := h k hk
      simp only at e
      simp only [spec_l10Around.l0]
      rw [if_pos (by omega), e, Option.bind_some, and_nat (lt62 hn (near_lt hV hg)) (lt62 hn hS), or_nat (lt62 hn hg) (lt62 hn (and_lt _ (near_lt hV hg))), wrap_succ (by omega), around_step hb]
    · intro _
      have hg := grow_lt (R := R) hDl hv n
      obtain ⟨K, h⟩ := near_spec_ev hV (n : Int) hg
      refine Ev.late K (fun k hk => ?_)
      have e := h k hk
      simp only at e
      simp only [spec_l10Around.l0]
      rw [if_neg (by omega), e, Option.bind_some, if_pos (by omega), andNot_nat (lt62 hn (near_lt hV hg)) (lt62 hn hS), shl1 (by omega), andNot_nat (lt62 hn (sd_lt _ (near_lt hV hg))) (lt62 hn (bit_lt hv))]
      rfl
  refine Ev.late_eq 0 (fun k _ => ?_) hL
  unfold spec_l10Around.f
  rw [if_pos (by omega), shl1 (by omega)]
  rfl
end
end Go.Proofs.Ytakgeblhdckccaa.P
