/- The plain law of FnDistances: what its walk computes is true, for every code. -/
import Derived.Test.YtakgeblhdckccaaDoorGEJ
import Derived.Test.YtakgeblhdckccaaDoorQj2
namespace Go.Proofs.YtakgeblhdckccaaDoor.Pure
open Go.RowKit Go.Proofs.YtakgeblhdckccaaDoorW.PrintWords Go.Proofs.YtakgeblhdckccaaDoorW.PrintLast Go.Proofs.YtakgeblhdckccaaDoorW.PrintMore Go.Proofs.YtakgeblhdckccaaDoor.Q Go.Proofs.YtakgeblhdckccaaDoor.P
section
variable {n : Nat} {R : Nat → Nat}
theorem dist_loop (hV : V n R) {a : Nat} (ha : a < n) : Ev (fun k => laws_FnDistances.l0 k (a : Int) true 0 (n : Int) (rows n R)) true := by
  have hn := hV.le
  have hp := hV.pos
  refine up_ev' (σ := Bool) (fun k i x => laws_FnDistances.l0 k (a : Int) x (i : Int) (n : Int) (rows n R)) n (fun i x => x = (List.range i).all fun u => decide (0 ≤ fst_ (hit R a u) n)) _ ?_ ?_ 0 true (Nat.zero_le _) rfl
  · intro i x hi hx ih
    obtain ⟨K, h⟩ := distOf_ev hV ha hi
    obtain ⟨K1, h1⟩ := fire_ev hV ha
    refine Ev.late_step (f := fun k => laws_FnDistances.j2 k (a : Int) (x && decide (0 ≤ fst_ (hit R a i) n)) (i : Int) (fst_ (hit R a i) n) (n : Int) (rows n R)) K (fun k hk => ?_) (Ev.late_step K1 (fun k hk => ?_) (ih (x && decide (0 ≤ fst_ (hit R a i) n)) ?_))
    · have e := h k (by omega)
      simp only at e
      simp only [laws_FnDistances.l0]
      rw [if_pos (by omega), e, Option.bind_some]
      cases x
      · rw [if_neg (by decide)]; rfl
      · rw [if_pos rfl, Bool.true_and]
    · have e := h1 k (by omega)
      simp only at e
      simp only [laws_FnDistances.j2]
      rw [e, Option.bind_some, at_f (by rw [dist_len]; exact hi), Option.bind_some, dist_at hi, if_pos rfl, wrap_succ (by omega)]
    · rw [hx, List.range_succ, List.all_append]
      simp
  · intro x hx
    have hx : x = cn R n a := hx
    obtain ⟨K, h⟩ := isConnected_ev hV
    obtain ⟨L, ⟨K1, h1⟩, hL⟩ := partsOf_full hV
    refine Ev.late (K + K1) (fun k hk => ?_)
    have e := h k (by omega)
    have e1 := h1 k (by omega)
    simp only at e e1
    simp only [laws_FnDistances.l0]
    rw [if_neg (by omega), e, Option.bind_some, hx, cn_same hV ha (show 0 < n by omega), if_pos (by simp), Option.bind_some, if_pos (by omega), all_spec hn, e1, Option.bind_some]
    congr 1
    have e3 : ((L.length : Int) == 1) = cn R n 0 := by
      rw [Bool.eq_iff_iff, beq_iff_eq, ← hL]
      omega
    rw [e3]
    simp
theorem dist_j0 (hV : V n R) {a : Nat} (ha : a < n) : Ev (fun k => laws_FnDistances.j0 k (a : Int) false (n : Int) (rows n R)) true := by
  refine Ev.late_step 0 (fun k _ => ?_) (dist_loop hV ha)
  simp only [laws_FnDistances.j0]
  rw [if_neg (by decide)]
end
theorem FnDistances : laws_FnDistances.Pure := by
  intro l _ _ _
  by_cases hlen : (l.length : Int) > 1048576
  · refine ⟨0, ?_⟩
    unfold laws_FnDistances.f
    rw [if_pos hlen]
  · have hb : l.length ≤ 1048576 := by omega
    obtain ⟨n, R, _, hV, K1, e1⟩ := makeGraph_ev hb 0 (by omega) (m := 8) (by omega) (by omega)
    have hn := hV.le
    have hp := hV.pos
    obtain ⟨ta, K2, e2⟩ := makeNum_ev hb 30 (by omega)
    obtain ⟨tb, K3, e3⟩ := makeNum_ev hb 32 (by omega)
    obtain ⟨tc, K4, e4⟩ := makeNum_ev hb 34 (by omega)
    have ea : Int.tmod (ta : Int) (n : Int) = ((ta % n : Nat) : Int) := rfl
    have eb : Int.tmod (tb : Int) (n : Int) = ((tb % n : Nat) : Int) := rfl
    have ec : Int.tmod (tc : Int) (n : Int) = ((tc % n : Nat) : Int) := rfl
    have ha : ta % n < n := Nat.mod_lt _ (by omega)
    have hb' : tb % n < n := Nat.mod_lt _ (by omega)
    have hc : tc % n < n := Nat.mod_lt _ (by omega)
    generalize ta % n = a at ea ha
    generalize tb % n = b at eb hb'
    generalize tc % n = c at ec hc
    obtain ⟨K5, e5⟩ := distOf_ev hV ha hb'
    obtain ⟨K6, e6⟩ := distOf_ev hV hb' hc
    obtain ⟨K7, e7⟩ := distOf_ev hV ha hc
    obtain ⟨K8, e8⟩ := distOf_ev hV hb' ha
    obtain ⟨K9, e9⟩ := hasEdge_ev hV ha hb'
    obtain ⟨K10, e10⟩ := dist_j0 hV ha
    refine ⟨K1 + K2 + K3 + K4 + K5 + K6 + K7 + K8 + K9 + K10, ?_⟩
    generalize hk : K1 + K2 + K3 + K4 + K5 + K6 + K7 + K8 + K9 + K10 = k
    have e1 := e1 k (by omega)
    have e2 := e2 k (by omega)
    have e3 := e3 k (by omega)
    have e4 := e4 k (by omega)
    have e5 := e5 k (by omega)
    have e6 := e6 k (by omega)
    have e7 := e7 k (by omega)
    have e8 := e8 k (by omega)
    have e9 := e9 k (by omega)
    have e10 := e10 k (by omega)
    simp only at e1 e2 e3 e4 e5 e6 e7 e8 e9 e10
    rw [← hit_sym hV ha hb'] at e8
    have n1 : ((fst_ (hit R a b) n == 0) != ((a : Int) == (b : Int))) = false := by
      have h0 := dd_zero hV ha (u := b)
      have : (fst_ (hit R a b) n == 0) = ((a : Int) == (b : Int)) := by
        rw [Bool.eq_iff_iff, beq_iff_eq, beq_iff_eq, h0]
        omega
      rw [this]
      cases ((a : Int) == (b : Int)) <;> rfl
    have n2 : ((fst_ (hit R a b) n == 1) != (R a).testBit b) = false := by
      have h0 := dd_one hV ha hb'
      have : (fst_ (hit R a b) n == 1) = (R a).testBit b := by
        rw [Bool.eq_iff_iff, beq_iff_eq, h0]
      rw [this]
      cases (R a).testBit b <;> rfl
    have n3 : ¬ ((n : Int) = 0) := by omega
    have f1 := fst_bound (hit R a b) n
    have f2 := fst_bound (hit R b c) n
    unfold laws_FnDistances.f
    rw [if_neg hlen]
    rw [show ((0 : Nat) : Int) = 0 from rfl, show ((8 : Nat) : Int) = 8 from rfl] at e1
    rw [show ((30 : Nat) : Int) = 30 from rfl] at e2
    rw [show ((32 : Nat) : Int) = 32 from rfl] at e3
    rw [show ((34 : Nat) : Int) = 34 from rfl] at e4
    simp only [e1, e2, e3, e4, Option.bind_some, n3, if_false, ea, eb, ec, e5, e6, e7, e8, if_true, n1, Bool.false_eq_true, e9, n2, e10]
    by_cases h1 : fst_ (hit R a b) n ≥ 0
    · rw [if_pos h1]
      by_cases h2 : fst_ (hit R b c) n ≥ 0
      · obtain ⟨t1, t2⟩ := dd_triangle hV ha h1 h2
        rw [if_pos h2, if_neg (by omega), P.wrap_small (by omega) (by omega), if_neg (by omega)]
      · rw [if_neg h2]
    · rw [if_neg h1]
end Go.Proofs.YtakgeblhdckccaaDoor.Pure
