/- The orders that the laws draw are orders of all vertices. -/
import Derived.Test.YtakgeblhdckccaaG30J
import Derived.Test.YtakgeblhdckccaaG10J
import Derived.Test.YtakgeblhdckccaaQj1
namespace Go.Proofs.Ytakgeblhdckccaa.P
open Go.RowKit Go.Proofs.YtakgeblhdckccaaW.PrintWords Go.Proofs.YtakgeblhdckccaaW.PrintLast Go.Proofs.YtakgeblhdckccaaW.PrintMore Go.Proofs.Ytakgeblhdckccaa.Q
set_option linter.unusedVariables false

theorem fresh_nodup : ∀ (t : List Nat) (S : Nat), (fresh S t = true) ↔ ((∀ v ∈ t, S.testBit v = false) ∧ t.Nodup)
  | [], S => by simp [fresh]
  | v :: t, S => by
    simp only [fresh, Bool.and_eq_true, Bool.not_eq_true', fresh_nodup t, List.nodup_cons, List.mem_cons]
    constructor
    · rintro ⟨h1, h2, h3⟩
      refine ⟨?_, fun hv => ?_, h3⟩
      · rintro w (rfl | hw)
        · exact h1
        · have := h2 w hw
          rw [Nat.testBit_or, Bool.or_eq_false_iff] at this
          exact this.1
      · have := h2 v hv
        rw [Nat.testBit_or, bit_self, Bool.or_true] at this
        cases this
    · rintro ⟨h1, h2, h3⟩
      refine ⟨h1 v (.inl rfl), fun w hw => ?_, h3⟩
      rw [Nat.testBit_or, h1 w (.inr hw), bit_eq, Bool.false_or]
      exact decide_eq_false (fun e => h2 (by rw [e]; exact hw))
theorem ints_set (t : List Nat) (i x : Nat) : (ints t).set i (x : Int) = ints (t.set i x) := by unfold ints; rw [List.map_set]
theorem shuffle_ev {b : List Int} (hb : b.length ≤ 1048576) {n : Nat} (hn : n ≤ 8) : ∀ (d : Nat) (t : List Nat), d < n → t.Perm (List.range n) → ∀ i h, At b i → ∃ t' i' h', t'.Perm (List.range n) ∧ Ev (fun k => spec_l09Order.l1 k (ints t) ((d : Nat) : Int) b i h) (ints t', i', h') := by
  intro d
  induction d with
  | zero =>
    intro t hd ht i h hi
    refine ⟨t, i, h, ht, Ev.one fun k => ?_⟩
    simp only [spec_l09Order.l1]
    rw [if_neg (by omega)]
  | succ d ih =>
    intro t hd ht i h hi
    have hl : t.length = n := by rw [ht.length_eq, List.length_range]
    obtain ⟨y, i1, x1, e1, hy, hi1⟩ := below_f hb hi h (n := d + 2) (by omega) (by omega)
    have hy' : y < t.length := by omega
    have hd' : d + 1 < t.length := by omega
    have hp : ((t.set y t[d + 1]).set (d + 1) t[y]).Perm (List.range n) := (List.set_set_perm hy' hd').trans ht
    obtain ⟨t', i', h', ht', hE⟩ := ih _ (by omega) hp i1 x1 hi1
    refine ⟨t', i', h', ht', Ev.late_step 0 (fun k _ => ?_) hE⟩
    have r1 : rd (ints t) (y : Int) = ((t[y] : Nat) : Int) := by rw [rd_ints]; simp [List.getD_eq_getElem?_getD, hy']
    have r2 : rd (ints t) ((d + 1 : Nat) : Int) = ((t[d + 1] : Nat) : Int) := by rw [rd_ints]; simp [List.getD_eq_getElem?_getD, hd']
    simp only [spec_l09Order.l1]
    rw [if_pos (by omega), wrap_succ (by omega), show d + 1 + 1 = d + 2 from rfl, e1, Option.bind_some, if_pos (by omega), if_pos (by rw [ints_len]; omega), if_pos (by omega), if_pos (by rw [ints_len]; omega), r1, r2, Int.toNat_natCast, Int.toNat_natCast, ints_set, ints_set, wrap_small (by omega) (by omega), show (((d + 1 : Nat) : Int) - 1) = (d : Int) by omega]
theorem order_draw_ev {b : List Int} (hb : b.length ≤ 1048576) {n : Nat} (h1 : 1 ≤ n) (hn : n ≤ 8) (l : List Int) {i : Int} (hi : At b i) (h : Int) : ∃ t i' h', t.Perm (List.range n) ∧ Ev (fun k => spec_l09Order.f k b i h (n : Int) l) (ints t, i', h') := by
  obtain ⟨t, i', h', ht, hE⟩ := shuffle_ev hb hn (n - 1) (List.range n) (by omega) (List.Perm.refl _) i h hi
  refine ⟨t, i', h', ht, ?_⟩
  have hm : mx 1 (mn (n : Int) 8) = (n : Int) := by unfold mx mn; (repeat' split) <;> omega
  have hL : Ev (fun k => spec_l09Order.l0 k (ints (List.range 0)) ((0 : Nat) : Int) b i h (n : Int) l) (ints t, i', h') := by
    refine upto_ev (fun k j => spec_l09Order.l0 k (ints (List.range j)) (j : Int) b i h (n : Int) l) n (fun _ => True) _ ?_ ?_ 0 (Nat.zero_le _) trivial
    · intro j hj _ ih
      refine Ev.late_step 0 (fun k _ => ?_) (ih trivial)
      simp only [spec_l09Order.l0]
      rw [hm, if_pos (by omega), if_pos (by rw [ints_len, List.length_range]; omega), wrap_succ (by omega), List.range_succ, ints_app]
      rfl
    · intro _
      refine Ev.late_step 0 (fun k _ => ?_) hE
      simp only [spec_l09Order.l0]
      rw [hm, if_neg (by omega), ints_len, List.length_range, wrap_small (by omega) (by omega), show (n : Int) - 1 = ((n - 1 : Nat) : Int) by omega]
  exact Ev.late_eq 0 (fun k _ => by unfold spec_l09Order.f; rfl) hL
/-- A drawn order. -/
theorem makeOrder_ev {b : List Int} (hb : b.length ≤ 1048576) (a : Nat) (ha : a ≤ 1000) {n : Nat} (h1 : 1 ≤ n) (hn : n ≤ 8) (l : List Int) : ∃ t, (t.length = n ∧ (∀ v ∈ t, v < n) ∧ fresh 0 t = true) ∧ Ev (fun k => spec_MakeOrder.f k b (a : Int) (n : Int) l) (ints t) := by
  obtain ⟨i, h, hi, K, hK⟩ := new15_ev hb a ha
  obtain ⟨t, i', h', ht, K2, hK2⟩ := order_draw_ev hb h1 hn l hi h
  refine ⟨t, ⟨by rw [ht.length_eq, List.length_range], fun v hv => by simpa using ht.mem_iff.1 hv, (fresh_nodup t 0).2 ⟨fun v _ => by simp, ht.nodup_iff.2 List.nodup_range⟩⟩, K + K2, fun k hk => ?_⟩
  have e := hK k (by omega)
  have e2 := hK2 k (by omega)
  simp only at e e2 ⊢
  unfold spec_MakeOrder.f
  simp only [e, e2, Option.bind_some]
end Go.Proofs.Ytakgeblhdckccaa.P
