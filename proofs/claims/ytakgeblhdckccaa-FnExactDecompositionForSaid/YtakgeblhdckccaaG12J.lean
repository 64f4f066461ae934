/- The bags of an order of elimination, as the reference makes them. -/
import Derived.Test.YtakgeblhdckccaaG11J
import Derived.Test.YtakgeblhdckccaaGBJ
import Derived.Test.YtakgeblhdckccaaQj1
namespace Go.Proofs.Ytakgeblhdckccaa.P
open Go.RowKit Go.Proofs.YtakgeblhdckccaaW.PrintWords Go.Proofs.YtakgeblhdckccaaW.PrintLast Go.Proofs.YtakgeblhdckccaaW.PrintMore Go.Proofs.Ytakgeblhdckccaa.Q
set_option linter.unusedVariables false

theorem fresh_app (a : List Nat) : ∀ (S : Nat) (b : List Nat), fresh S (a ++ b) = (fresh S a && fresh (orr S a) b) := by
  induction a with
  | nil => intro S b; rfl
  | cons v a ih => intro S b; simp only [List.cons_append, fresh, ih, orr, Bool.and_assoc]
/-- In an order, no vertex is in the set of those before it. -/
theorem fresh_at {t : List Nat} {S i : Nat} (h : fresh S t = true) (hi : i < t.length) : (orr S (t.take i)).testBit (t.getD i 0) = false := by
  have e : t = t.take (i + 1) ++ t.drop (i + 1) := (List.take_append_drop _ _).symm
  rw [e, fresh_app, take_snoc t hi, fresh_snoc, Bool.and_eq_true, Bool.and_eq_true] at h
  simpa using h.1.2
/-- The bags of an order, S gone before. -/
def bagL (n : Nat) (R : Nat → Nat) (S : Nat) : List Nat → List Nat
  | [] => []
  | v :: t => (beh n R S v ||| 2 ^ v) :: bagL n R (S ||| 2 ^ v) t
theorem bagL_len (n : Nat) (R : Nat → Nat) : ∀ (t : List Nat) (S : Nat), (bagL n R S t).length = t.length
  | [], S => rfl
  | v :: t, S => by simp only [bagL, List.length_cons, bagL_len n R t]
theorem bagL_snoc (n : Nat) (R : Nat → Nat) : ∀ (t : List Nat) (S v : Nat), bagL n R S (t ++ [v]) = bagL n R S t ++ [beh n R (orr S t) v ||| 2 ^ v]
  | [], S, v => rfl
  | w :: t, S, v => by simp only [List.cons_append, bagL, bagL_snoc n R t, orr]
theorem bagL_at (n : Nat) (R : Nat → Nat) : ∀ (t : List Nat) (S i : Nat), i < t.length → (bagL n R S t).getD i 0 = beh n R (orr S (t.take i)) (t.getD i 0) ||| 2 ^ (t.getD i 0)
  | [], S, i, h => by simp at h
  | v :: t, S, 0, h => rfl
  | v :: t, S, i + 1, h => by
    have := bagL_at n R t (S ||| 2 ^ v) i (by simpa using h)
    simpa [bagL, orr] using this
theorem bagL_lt {n : Nat} {R : Nat → Nat} (hV : V n R) : ∀ (t : List Nat) (S : Nat), S < 2 ^ n → (∀ v ∈ t, v < n) → ∀ b ∈ bagL n R S t, b < 2 ^ n
  | [], S, _, _, b, hb => by simp [bagL] at hb
  | v :: t, S, hS, h, b, hb => by
    have hv := h v (by simp)
    simp only [bagL, List.mem_cons] at hb
    rcases hb with rfl | hb
    · exact or_lt (beh_lt hV hS hv) (bit_lt hv)
    · exact bagL_lt hV t _ (or_bit_lt hS hv) (fun w hw => h w (by simp [hw])) b hb
section
variable {n : Nat} {R : Nat → Nat} {t : List Nat}
theorem bags_loop (hV : V n R) (ht : ∀ v ∈ t, v < n) (hl : t.length = n) (hf : fresh 0 t = true) : Ev (fun k => spec_EliminationBags.l0 k ([] : List Int) 0 (ints t) (t.length : Int) 0 (n : Int) (rows n R)) (ints (bagL n R 0 t)) := by
  have hn := hV.le
  refine upto_ev (fun k i => spec_EliminationBags.l0 k (ints (bagL n R 0 (t.take i))) ((orr 0 (t.take i) : Nat) : Int) (ints t) (t.length : Int) (i : Int) (n : Int) (rows n R)) t.length (fun _ => True) _ ?_ ?_ 0 (Nat.zero_le _) trivial
  · intro i hi _ ih
    have hv := ht _ (getD_mem hi)
    have hS : orr 0 (t.take i) < 2 ^ n := orr_lt _ 0 (Nat.two_pow_pos n) (fun v h => ht v (List.mem_of_mem_take h))
    obtain ⟨K, h⟩ := around_spec_ev hV hS hv (fresh_at hf hi)
    refine Ev.late_step K (fun k hk => ?_) (ih trivial)
    have e := h k hk
    simp only at e
    simp only [spec_EliminationBags.l0]
    rw [if_pos (by omega), if_pos (by omega), if_pos (by rw [ints_len]; omega), rd_ints, e, Option.bind_some, if_pos (by omega), if_pos (by rw [ints_len, bagL_len, List.length_take]; omega), shl1 (by omega), or_nat (lt62 hn (beh_lt hV hS hv)) (lt62 hn (bit_lt hv)), or_nat (lt62 hn hS) (lt62 hn (bit_lt hv)), wrap_succ (by omega), take_snoc t hi, orr_snoc, bagL_snoc, ints_app]
    rfl
  · intro _
    refine Ev.one fun k => ?_
    simp only [spec_EliminationBags.l0]
    rw [if_neg (by omega), List.take_length]
theorem bags_spec (hV : V n R) (ht : ∀ v ∈ t, v < n) (hl : t.length = n) (hf : fresh 0 t = true) (hb : layB (n : Int) (rows n R) (ints t) = true) : Ev (fun k => spec_EliminationBags.f k (n : Int) (rows n R) (ints t)) (ints (bagL n R 0 t)) := by
  have hn := hV.le
  obtain ⟨K, h⟩ := layout_spec (n : Int) (rows n R) (ints t) (by rw [ints_len]; omega)
  obtain ⟨K2, h2⟩ := bags_loop hV ht hl hf
  refine ⟨K + K2, fun k hk => ?_⟩
  have e := h k (by omega)
  have e2 := h2 k (by omega)
  simp only at e e2 ⊢
  unfold spec_EliminationBags.f
  rw [e, hb, Option.bind_some, if_pos rfl, ints_len, e2]
end
theorem bags_spec_none {s : Int} {l o : List Int} (ho : o.length ≤ 4000000) (hb : layB s l o = false) : Ev (fun k => spec_EliminationBags.f k s l o) [] := by
  obtain ⟨K, h⟩ := layout_spec s l o ho
  refine ⟨K, fun k hk => ?_⟩
  have e := h k hk
  simp only at e ⊢
  unfold spec_EliminationBags.f
  rw [e, hb, Option.bind_some, if_neg (by decide)]
end Go.Proofs.Ytakgeblhdckccaa.P
