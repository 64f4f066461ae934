/- The plain law of FnLayouts: what its walk computes is true, for every code. -/
import Derived.Test.YtakgeblhdckccaaG31J
import Derived.Test.YtakgeblhdckccaaG35J
import Derived.Test.YtakgeblhdckccaaQj4
namespace Go.Proofs.Ytakgeblhdckccaa.Pure
open Go.RowKit Go.Proofs.YtakgeblhdckccaaW.PrintWords Go.Proofs.YtakgeblhdckccaaW.PrintLast Go.Proofs.YtakgeblhdckccaaW.PrintMore Go.Proofs.Ytakgeblhdckccaa.Q Go.Proofs.Ytakgeblhdckccaa.P
section
variable {n : Nat} {R : Nat → Nat} {t : List Nat}
theorem lay_loop (hV : V n R) (hl : t.length = n) (ht : ∀ v ∈ t, v < n) (hf : fresh 0 t = true) {f : Nat} (h1 : 1 ≤ f) (h2 : f ≤ n) :
    Ev (fun k => laws_FnLayouts.l0 k ((mcost (sc R) 0 t 0 : Nat) : Int) (f : Int) (ints (pbs R t n)) (ints (frs R t n)) 0 0 (ints t) (t.length : Int) 0 (n : Int) (rows n R)) true := by
  have hn := hV.le
  refine upto_ev (fun k i => laws_FnLayouts.l0 k ((mcost (sc R) 0 t 0 : Nat) : Int) (f : Int) (ints (pbs R t n)) (ints (frs R t n)) ((mcost (sc R) 0 (t.take i) 0 : Nat) : Int) ((pre t i : Nat) : Int) (ints t) (t.length : Int) (i : Int) (n : Int) (rows n R)) t.length (fun _ => True) _ ?_ ?_ 0 (Nat.zero_le _) trivial
  · intro i hi _ ih
    have hin : i < n := by omega
    have hv := ht _ (getD_mem hi)
    have hS := pre_lt ht i
    have hvS := fresh_at hf hi
    have hS2 := pre_lt ht (i + 1)
    have hbl := pb_lt (R := R) hn ht hi
    have hfl := front_lt (R := R) hn hS
    obtain ⟨K, h⟩ := frontOf_ev hV hS2
    refine Ev.late_step K (fun k hk => ?_) (ih trivial)
    have e := h k hk
    simp only at e
    rw [pre_succ hi] at e
    have hb1 : pb R t i &&& 2 ^ (t.getD i 0) ≠ 0 := by
      intro h0
      have := congrArg (fun x => x.testBit (t.getD i 0)) h0
      simp only [Nat.testBit_and, bit_self, Nat.zero_testBit, Bool.and_true] at this
      rw [pb_bit hn ht, decide_eq_true rfl, Bool.or_true] at this
      cases this
    have hb2 : sd (pb R t i) (pre t i ||| 2 ^ (t.getD i 0)) = 0 := by
      apply set_ext
      intro j
      rw [sd_bit, Nat.zero_testBit]
      cases hj : (pb R t i).testBit j with
      | false => rfl
      | true =>
        unfold pb at hj
        rw [Nat.testBit_or, Bool.or_eq_true] at hj
        rw [Nat.testBit_or]
        rcases hj with hj | hj
        · rw [front_sub hn hS hj]; rfl
        · rw [hj, Bool.or_true]; rfl
    have hc : cnt (pb R t i) = sc R (pre t i) (t.getD i 0) := by
      unfold pb sc
      have hb : (front R (pre t i)).testBit (t.getD i 0) = false := by
        rw [front_bit hn hS]
        rw [show (pre t i).testBit (t.getD i 0) = (orr 0 (t.take i)).testBit (t.getD i 0) from rfl, hvS]
        rfl
      rw [cnt_or hn hfl hv, hb, if_neg (by decide)]
    simp only [laws_FnLayouts.l0]
    rw [if_pos (by omega), if_pos (by omega), if_pos (by rw [ints_len]; omega), rd_ints, if_pos (by omega), if_pos (by rw [ints_len, pbs_len]; omega), rd_ints, pbs_at hin, shl1 (by omega), and_nat (lt62 hn hbl) (lt62 hn (bit_lt hv)), if_neg (by omega), if_pos (by rw [ints_len, frs_len]; omega), or_nat (lt62 hn hS) (lt62 hn (bit_lt hv)), e, Option.bind_some, rd_ints, frs_at hin, pre_succ hi, if_pos rfl, andNot_nat (lt62 hn hbl) (lt62 hn (or_bit_lt hS hv)), hb2, if_pos (by omega), count_impl (lt_256 hn hbl), Option.bind_some, wrap_succ (by omega), hc, mx_nat, take_snoc t hi, mcost_snoc]
  · intro _
    refine Ev.one fun k => ?_
    simp only [laws_FnLayouts.l0]
    rw [if_neg (by omega), List.take_length, if_pos rfl, if_pos (by omega), decide_eq_true (by omega)]
theorem front_full (hV : V n R) : front R (2 ^ n - 1) = 0 := by
  have hn := hV.le
  apply set_ext
  intro i
  rw [front_bit hn (all_lt n), Nat.zero_testBit]
  have e : sd (R i) (2 ^ n - 1) = 0 := by
    apply set_ext
    intro j
    rw [sd_bit, all_bit, Nat.zero_testBit]
    by_cases h : j < n
    · rw [decide_eq_true h, Bool.not_true, Bool.and_false]
    · rw [lt_iff_bits.1 (hV.lt' i) j (by omega), Bool.false_and]
  rw [e, decide_eq_false (by simp), Bool.and_false]
end
theorem FnLayouts : laws_FnLayouts.Pure := by
  intro l _ _ _
  by_cases hlen : (l.length : Int) > 1048576
  · refine ⟨0, ?_⟩
    unfold laws_FnLayouts.f
    rw [if_pos hlen]
  · have hb : l.length ≤ 1048576 := by omega
    obtain ⟨n, R, _, hV, K1, e1⟩ := makeGraph_ev hb 0 (by omega) (m := 8) (by omega) (by omega)
    have hn := hV.le
    have hpos := hV.pos
    obtain ⟨t, ⟨hl, ht, hf⟩, K2, e2⟩ := makeOrder_ev hb 40 (by omega) hpos hn (rows n R)
    obtain ⟨bl_, bt, bf, bm⟩ := ordr_order (sc_low hV) hn
    have hlay := layout_true hV hl ht hf
    obtain ⟨K3, e3⟩ := searchersFor_ev hV hl ht hf
    obtain ⟨K4, e4⟩ := bestLayout_ev hV
    obtain ⟨K5, e5⟩ := fewest_ev hV
    obtain ⟨K6, e6⟩ := pathBags_ev hV ht hl (layB_mk hV hl ht hf) hlay
    obtain ⟨K7, e7⟩ := frontsOf_ev hV ht hl hlay
    obtain ⟨K8, e8⟩ := hlay
    obtain ⟨K9, e9⟩ := layout_true hV bl_ bt bf
    obtain ⟨K10, e10⟩ := searchersFor_ev hV bl_ bt bf
    obtain ⟨K11, e11⟩ := isPath_ev hV hf ht hl
    obtain ⟨w1, w2⟩ := W_pos hV
    obtain ⟨K12, e12⟩ := lay_loop hV hl ht hf w1 w2
    have hfull := (orr_full hn ht hl).2 hf
    have hle := W_le_mcost (c := sc R) t 0 (Nat.two_pow_pos n) ht hf hfull
    refine ⟨K1 + K2 + K3 + K4 + K5 + K6 + K7 + K8 + K9 + K10 + K11 + K12 + 1, ?_⟩
    generalize hk : K1 + K2 + K3 + K4 + K5 + K6 + K7 + K8 + K9 + K10 + K11 + K12 = k
    have e1 := e1 (k + 1) (by omega)
    have e2 := e2 (k + 1) (by omega)
    have e3 := e3 (k + 1) (by omega)
    have e4 := e4 (k + 1) (by omega)
    have e5 := e5 (k + 1) (by omega)
    have e6 := e6 (k + 1) (by omega)
    have e7 := e7 (k + 1) (by omega)
    have e8 := e8 (k + 1) (by omega)
    have e9 := e9 (k + 1) (by omega)
    have e10 := e10 (k + 1) (by omega)
    have e11 := e11 (k + 1) (by omega)
    have e12 := e12 k (by omega)
    simp only at e1 e2 e3 e4 e5 e6 e7 e8 e9 e10 e11 e12
    rw [bm] at e10
    have hw : wrap64 ((n : Int) - 1) = ((n - 1 : Nat) : Int) := by rw [P.wrap_small (by omega) (by omega)]; omega
    have hr : rd (ints (frs R t n)) ((n - 1 : Nat) : Int) = 0 := by
      rw [rd_ints, frs_at (by omega), show n - 1 + 1 = n by omega]
      have e : pre t n = 2 ^ n - 1 := by
        unfold pre
        rw [← hl, List.take_length, hl]
        exact hfull
      rw [e, front_full hV]
      rfl
    unfold laws_FnLayouts.f
    rw [if_neg hlen]
    have e1' : spec_MakeGraph.f (k + 1) l 0 8 = some ((n : Int), rows n R) := e1
    have e2' : spec_MakeOrder.f (k + 1) l 40 (n : Int) (rows n R) = some (ints t) := e2
    have n1 : ¬ (((mcost (sc R) 0 t 0 : Nat) : Int) < ((W n (sc R) 0 : Nat) : Int)) := by omega
    have p1 : ((ints (pbs R t n)).length : Int) = (n : Int) := by rw [ints_len, pbs_len]
    have p2 : ((ints (frs R t n)).length : Int) = (n : Int) := by rw [ints_len, frs_len]
    have p3 : (0 : Int) ≤ ((n - 1 : Nat) : Int) := by omega
    have p4 : ((n - 1 : Nat) : Int) < (n : Int) := by omega
    simp only [e1', e2', e3, e4, e5, e6, e7, e8, e9, e10, e11, Option.bind_some, if_true, n1, if_false, p1, p2, hw, p3, p4, hr]
    simp only [laws_FnLayouts.j0]
    rw [if_neg (by decide), ints_len]
    exact e12
end Go.Proofs.Ytakgeblhdckccaa.Pure
