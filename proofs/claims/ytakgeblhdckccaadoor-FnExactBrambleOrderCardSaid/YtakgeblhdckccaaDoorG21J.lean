/- The order of a bramble: the program and the reference answer alike. -/
import Derived.Test.YtakgeblhdckccaaDoorG20J
import Derived.Test.YtakgeblhdckccaaDoorGXJ
import Derived.Test.YtakgeblhdckccaaDoorGCJ
import Derived.Test.YtakgeblhdckccaaDoorQj2
import Derived.Test.YtakgeblhdckccaaDoorQj0
namespace Go.Proofs.YtakgeblhdckccaaDoor.P
open Go.RowKit Go.Proofs.YtakgeblhdckccaaDoorW.PrintWords Go.Proofs.YtakgeblhdckccaaDoorW.PrintLast Go.Proofs.YtakgeblhdckccaaDoorW.PrintMore Go.Proofs.YtakgeblhdckccaaDoor.Q
set_option linter.unusedVariables false

/-- Does S meet each set of the list? -/
def hit (S : Nat) (bs : List Nat) : Bool := bs.all fun b => decide (b &&& S ≠ 0)
theorem mn_nat' (a b : Nat) : mn (a : Int) (b : Int) = ((min a b : Nat) : Int) := by unfold mn; split <;> omega
section
variable {n : Nat} {R : Nat → Nat} {bs : List Nat}
theorem hit_impl (hn : n ≤ 8) (hb : ∀ b ∈ bs, b < 2 ^ n) (hl : bs.length ≤ 20) {S : Nat} (hS : S < 2 ^ n) {k : Nat} (hk : bs.length < k) : slices_ContainsFunc_int_int.f k (ints bs) (impl_BrambleOrder.p (S : Int)) = some (!hit S bs) := by
  have key : ∀ cs : List Nat, (∀ b ∈ cs, b < 2 ^ n) → (ints cs).any (fun x => Go.bits .and .i64 x (S : Int) == 0) = !hit S cs := by
    intro cs
    induction cs with
    | nil => intro _; rfl
    | cons c cs ih =>
      intro h
      have h1 := ih (fun b hb => h b (by simp [hb]))
      have e : (Go.bits .and .i64 ((c : Nat) : Int) (S : Int) == 0) = !decide (c &&& S ≠ 0) := by
        rw [and_nat (lt62 hn (h c (by simp))) (lt62 hn hS), Bool.eq_iff_iff, beq_iff_eq, Bool.not_eq_true', decide_eq_false_iff_not]
        omega
      change ((Go.bits .and .i64 ((c : Nat) : Int) (S : Int) == 0) || (ints cs).any (fun x => Go.bits .and .i64 x (S : Int) == 0)) = !(decide (c &&& S ≠ 0) && hit S cs)
      rw [e, h1, Bool.not_and]
  have e := contains_k (l := ints bs) (P := impl_BrambleOrder.p (S : Int)) (q := fun x => Go.bits .and .i64 x (S : Int) == 0) (by rw [ints_len]; omega) (fun x _ => rfl) (k := k) (by rw [ints_len]; exact hk)
  rw [e, key bs hb]
theorem hit_spec (hn : n ≤ 8) (hb : ∀ b ∈ bs, b < 2 ^ n) (hl : bs.length ≤ 20) {S : Nat} (hS : S < 2 ^ n) (m : Int) {r : Int}
    (h : Ev (fun k => spec_BrambleOrder.l1 k (ints bs) m (S : Int) (hit S bs) (ints bs) (bs.length : Int) (bs.length : Int) (n : Int) (rows n R)) r) :
    Ev (fun k => spec_BrambleOrder.l1 k (ints bs) m (S : Int) true (ints bs) (bs.length : Int) 0 (n : Int) (rows n R)) r := by
  refine up_ev' (fun k i b => spec_BrambleOrder.l1 k (ints bs) m (S : Int) b (ints bs) (bs.length : Int) (i : Int) (n : Int) (rows n R)) bs.length (fun i b => b = hit S (bs.take i)) r ?_ ?_ 0 true (Nat.zero_le _) rfl
  · rintro i b hi rfl ih
    have hr : rd (ints bs) (i : Int) = ((bs[i] : Nat) : Int) := by
      rw [rd_nat]
      simp [ints, List.getD_eq_getElem?_getD, hi]
    have hbi := hb _ (List.getElem_mem hi)
    have hstep : hit S (bs.take (i + 1)) = (hit S (bs.take i) && decide (bs[i] &&& S ≠ 0)) := by
      unfold hit
      rw [List.take_succ_eq_append_getElem hi, List.all_append]
      simp
    refine Ev.late_step 0 (fun k _ => ?_) (ih _ rfl)
    simp only [spec_BrambleOrder.l1]
    rw [if_pos (by omega), if_pos (by omega), if_pos (by rw [ints_len]; omega), hr, and_nat (lt62 hn hbi) (lt62 hn hS), wrap_succ (by omega), hstep]
    cases hit S (bs.take i) with
    | true =>
      rw [if_pos rfl, Bool.true_and]
      congr 1
      rw [Bool.eq_iff_iff, bne_iff_ne, decide_eq_true_eq]
      omega
    | false => rw [if_neg (by decide), Bool.false_and]
  · rintro b rfl
    rw [List.take_length]
    exact h
theorem order_both (hV : V n R) (hb : ∀ b ∈ bs, b < 2 ^ n) (hl : bs.length ≤ 20) : ∀ d S : Nat, 2 ^ n = S + d → ∀ m : Nat, ∃ r, Ev (fun k => impl_BrambleOrder.l0 k (ints bs) (m : Int) ((2 ^ n : Nat) : Int) (S : Int)) r ∧ Ev (fun k => spec_BrambleOrder.l0 k (ints bs) (m : Int) (S : Int) (n : Int) (rows n R)) r := by
  have hn := hV.le
  have h256 := small_pow hn
  intro d
  induction d with
  | zero =>
    intro S hd m
    refine ⟨(m : Int), Ev.one fun k => ?_, Ev.one fun k => ?_⟩
    · simp only [impl_BrambleOrder.l0]; rw [if_neg (by omega)]
    · simp only [spec_BrambleOrder.l0]; rw [if_pos (by omega), shl1 (by omega), if_neg (by omega)]
  | succ d ih =>
    intro S hd m
    have hS : S < 2 ^ n := by omega
    obtain ⟨K, hc⟩ := count_spec_ev (lt62 hn hS)
    cases hh : hit S bs with
    | true =>
      obtain ⟨r, ⟨K1, h1⟩, h2⟩ := ih (S + 1) (by omega) (min m (cnt S))
      refine ⟨r, ⟨K1 + bs.length + 2, fun k hk => ?_⟩, ?_⟩
      · obtain ⟨k, rfl⟩ : ∃ q, k = q + 1 := ⟨k - 1, by omega⟩
        have e1 := h1 k (by omega)
        simp only at e1
        simp only [impl_BrambleOrder.l0]
        rw [if_pos (by omega), hit_impl hn hb hl hS (by omega), hh, Option.bind_some, if_neg (by decide), count_impl (lt_256 hn hS), Option.bind_some, mn_nat', wrap_succ (by omega)]
        exact e1
      · have h3 : Ev (fun k => spec_BrambleOrder.l1 k (ints bs) (m : Int) (S : Int) (hit S bs) (ints bs) (bs.length : Int) (bs.length : Int) (n : Int) (rows n R)) r := by
          rw [hh]
          refine Ev.late_step K (fun k hk => ?_) h2
          have e := hc k hk
          simp only at e
          simp only [spec_BrambleOrder.l1]
          rw [if_neg (by omega), if_pos trivial, e, Option.bind_some, mn_nat', wrap_succ (by omega)]
        refine Ev.late_step 0 (fun k _ => ?_) (hit_spec hn hb hl hS _ h3)
        simp only [spec_BrambleOrder.l0]
        rw [if_pos (by omega), shl1 (by omega), if_pos (by omega), ints_len]
    | false =>
      obtain ⟨r, ⟨K1, h1⟩, h2⟩ := ih (S + 1) (by omega) m
      refine ⟨r, ⟨K1 + bs.length + 2, fun k hk => ?_⟩, ?_⟩
      · obtain ⟨k, rfl⟩ : ∃ q, k = q + 1 := ⟨k - 1, by omega⟩
        have e1 := h1 k (by omega)
        simp only at e1
        simp only [impl_BrambleOrder.l0]
        rw [if_pos (by omega), hit_impl hn hb hl hS (by omega), hh, Option.bind_some, if_pos (by decide), wrap_succ (by omega)]
        exact e1
      · have h3 : Ev (fun k => spec_BrambleOrder.l1 k (ints bs) (m : Int) (S : Int) (hit S bs) (ints bs) (bs.length : Int) (bs.length : Int) (n : Int) (rows n R)) r := by
          rw [hh]
          refine Ev.late_step 0 (fun k hk => ?_) h2
          simp only [spec_BrambleOrder.l1]
          rw [if_neg (by omega), if_neg (by decide), wrap_succ (by omega)]
        refine Ev.late_step 0 (fun k _ => ?_) (hit_spec hn hb hl hS _ h3)
        simp only [spec_BrambleOrder.l0]
        rw [if_pos (by omega), shl1 (by omega), if_pos (by omega), ints_len]
end
theorem nats_of {l : List Int} {n : Nat} (h : ∀ j, j < l.length → ∃ S : Nat, l.getD j 0 = (S : Int) ∧ S < 2 ^ n) : l = ints (l.map Int.toNat) ∧ ∀ b ∈ l.map Int.toNat, b < 2 ^ n := by
  have hm : ∀ x ∈ l, ∃ S : Nat, x = (S : Int) ∧ S < 2 ^ n := by
    intro x hx
    obtain ⟨j, hj, rfl⟩ := List.getElem_of_mem hx
    obtain ⟨S, h1, h2⟩ := h j hj
    exact ⟨S, by rw [← h1]; simp [List.getD_eq_getElem?_getD, hj], h2⟩
  constructor
  · unfold ints
    rw [List.map_map]
    conv => lhs; rw [← List.map_id l]
    apply List.map_congr_left
    intro x hx
    obtain ⟨S, rfl, _⟩ := hm x hx
    rfl
  · intro b hb
    obtain ⟨x, hx, rfl⟩ := List.mem_map.1 hb
    obtain ⟨S, rfl, hS⟩ := hm x hx
    exact hS
theorem brambleOrder_both (s : Int) (l o : List Int) : ∃ r, Ev (fun k => impl_BrambleOrder.f k s l o) r ∧ Ev (fun k => spec_BrambleOrder.f k s l o) r := by
  obtain ⟨b, ⟨K, h⟩, ⟨K1, h1⟩, hb⟩ := isBramble_both s l o
  cases b with
  | false =>
    refine ⟨-1, ⟨K, fun k hk => ?_⟩, ⟨K1, fun k hk => ?_⟩⟩
    · have e := h k hk
      simp only at e ⊢
      unfold impl_BrambleOrder.f
      rw [e, Option.bind_some, if_neg (by decide)]
    · have e := h1 k hk
      simp only at e ⊢
      unfold spec_BrambleOrder.f
      rw [e, Option.bind_some, if_neg (by decide)]
  | true =>
    obtain ⟨n, R, hV, rfl, rfl, hl, hok⟩ := hb rfl
    have hn := hV.le
    have h256 := small_pow hn
    obtain ⟨eo, hbs⟩ := nats_of (n := n) (l := o) (fun j hj => by obtain ⟨S, h1, h2, _⟩ := okE_nat (hok j hj); exact ⟨S, h1, h2⟩)
    have hlen : (o.map Int.toNat).length = o.length := List.length_map _
    generalize o.map Int.toNat = bs at eo hbs hlen
    obtain ⟨r, ⟨K2, h2⟩, ⟨K3, h3⟩⟩ := order_both hV hbs (by omega) (2 ^ n) 0 (by omega) n
    refine ⟨r, ⟨K + K2, fun k hk => ?_⟩, ⟨K1 + K3, fun k hk => ?_⟩⟩
    · have e := h k (by omega)
      have e2 := h2 k (by omega)
      simp only at e e2 ⊢
      unfold impl_BrambleOrder.f
      rw [e, Option.bind_some, if_pos rfl, impl_all_f (by omega), Option.bind_some, wrap_small (by omega) (by omega), eo, show ((2 ^ n - 1 : Nat) : Int) + 1 = ((2 ^ n : Nat) : Int) by omega]
      exact e2
    · have e := h1 k (by omega)
      have e2 := h3 k (by omega)
      simp only at e e2 ⊢
      unfold spec_BrambleOrder.f
      rw [e, Option.bind_some, if_pos rfl, eo]
      exact e2
end Go.Proofs.YtakgeblhdckccaaDoor.P
