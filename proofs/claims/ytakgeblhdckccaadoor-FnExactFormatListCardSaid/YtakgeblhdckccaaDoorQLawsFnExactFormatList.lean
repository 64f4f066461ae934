-- written by p2.py (ours) out of the translation
import Derived.Test.YtakgeblhdckccaaDoorQ0
import Derived.Test.YtakgeblhdckccaaDoorQLawsToIntS
import Derived.Test.YtakgeblhdckccaaDoorQLawsIntactIntS
import Derived.Test.YtakgeblhdckccaaDoorQSpecFormatList
import Derived.Test.YtakgeblhdckccaaDoorQImplFormatList
namespace Go.Proofs.YtakgeblhdckccaaDoor.Q
open Go.RowKit Go.Proofs.YtakgeblhdckccaaDoorW.PrintWords Go.Proofs.YtakgeblhdckccaaDoorW.PrintLast Go.Proofs.YtakgeblhdckccaaDoorW.PrintMore
attribute [local go_sem] max2_int min2_int max_two min_two max_three min_three max_four min_four   -- for this text's walks alone
set_option linter.unusedVariables false
set_option linter.unusedSimpArgs false

/-! ### laws_FnExactFormatList: function 6 -/
def laws_FnExactFormatList.f (k : Nat) (l0 : List Int) : Option (Bool) := if (l0.length : Int) > 1000000 then (some true) else ((laws_toIntS.f k l0 false).bind fun t101 => ((spec_FormatList.f k t101).bind fun t104 => ((laws_toIntS.f k l0 false).bind fun t105 => ((impl_FormatList.f k t105).bind fun t108 => (if t108.toList = t104.toList then ((laws_toIntS.f k l0 false).bind fun t109 => ((laws_intactIntS.f k t105 t109).bind fun t112 => (if t112 = true then ((laws_toIntS.f k l0 true).bind fun t113 => ((impl_FormatList.f k t113).bind fun t116 => (if t116.toList = t104.toList then (some true) else (some false)))) else (some false)))) else (some false))))))
set_option maxHeartbeats 8000000 in
set_option maxRecDepth 100000 in
theorem laws_FnExactFormatList.calls (k : Nat) (A0 : Option Addr) (c0 : Nat) (l0 : List Int) (w : World) (hr0 : Kd.C (Kd.int .i64) w A0 l0.length l0) (hc0 : l0.length ≤ c0) (hT : Tb 3 w) (h : laws_FnExactFormatList.f k l0 = some true) :
    Calls Tryd.prog 6 #[.slice A0 l0.length c0] w fun e w' => e = .returned (.bool true) ∧ Below w.heap.size w w' := by
  have HR0 := Aside0.mk hr0
  have HC0 := Aside0.mk hc0
  clear hr0 hc0
  have HB := Aside0.mk (Below.refl w.heap.size w)
  have HT := Aside0.mk hT
  clear hT
  have H : (if (l0.length : Int) > 1000000 then (some true) else ((laws_toIntS.f k l0 false).bind fun t101 => ((spec_FormatList.f k t101).bind fun t104 => ((laws_toIntS.f k l0 false).bind fun t105 => ((impl_FormatList.f k t105).bind fun t108 => (if t108.toList = t104.toList then ((laws_toIntS.f k l0 false).bind fun t109 => ((laws_intactIntS.f k t105 t109).bind fun t112 => (if t112 = true then ((laws_toIntS.f k l0 true).bind fun t113 => ((impl_FormatList.f k t113).bind fun t116 => (if t116.toList = t104.toList then (some true) else (some false)))) else (some false)))) else (some false))))))) = some true := h
  clear h
  by_cases c2 : (l0.length : Int) > 1000000
  · rw [if_pos c2] at H
    have c2b0 : decide (1000000 < (l0.length : Int)) = true := decide_eq_true c2
    have c2b1 : decide (1000000 < l0.length) = true := decide_eq_true (by omega)
    clear c2
    (first | (obtain rfl := Option.some.inj H) | clear H)
    go_enter Tryd.func6, Tryd.ntmps6
    go_wp2
    go_ret
    exact ⟨by first | rfl | (simp [errW_none, errW_some] <;> rfl) | (simp [*, errW_none, errW_some] <;> rfl), by repeat (first | (with_reducible first | exact HB.out | apply below_alloc | apply pw_below_drewN | apply below_drew1) | exact HB.out)⟩
  · rw [if_neg c2] at H
    have c2b0 : decide (1000000 < (l0.length : Int)) = false := decide_eq_false c2
    have c2b1 : decide (1000000 < l0.length) = false := decide_eq_false (by omega)
    clear c2
    replace H := Option.bind_eq_some_iff.mp H
    obtain ⟨t101, A30, H⟩ := H
    replace H : ((spec_FormatList.f k t101).bind fun t104 => ((laws_toIntS.f k l0 false).bind fun t105 => ((impl_FormatList.f k t105).bind fun t108 => (if t108.toList = t104.toList then ((laws_toIntS.f k l0 false).bind fun t109 => ((laws_intactIntS.f k t105 t109).bind fun t112 => (if t112 = true then ((laws_toIntS.f k l0 true).bind fun t113 => ((impl_FormatList.f k t113).bind fun t116 => (if t116.toList = t104.toList then (some true) else (some false)))) else (some false)))) else (some false))))) = some true := H
    have A3 := Aside0.mk A30
    clear A30
    replace H := Option.bind_eq_some_iff.mp H
    obtain ⟨t104, A40, H⟩ := H
    replace H : ((laws_toIntS.f k l0 false).bind fun t105 => ((impl_FormatList.f k t105).bind fun t108 => (if t108.toList = t104.toList then ((laws_toIntS.f k l0 false).bind fun t109 => ((laws_intactIntS.f k t105 t109).bind fun t112 => (if t112 = true then ((laws_toIntS.f k l0 true).bind fun t113 => ((impl_FormatList.f k t113).bind fun t116 => (if t116.toList = t104.toList then (some true) else (some false)))) else (some false)))) else (some false)))) = some true := H
    have A4 := Aside0.mk A40
    clear A40
    replace H := Option.bind_eq_some_iff.mp H
    obtain ⟨t105, A50, H⟩ := H
    replace H : ((impl_FormatList.f k t105).bind fun t108 => (if t108.toList = t104.toList then ((laws_toIntS.f k l0 false).bind fun t109 => ((laws_intactIntS.f k t105 t109).bind fun t112 => (if t112 = true then ((laws_toIntS.f k l0 true).bind fun t113 => ((impl_FormatList.f k t113).bind fun t116 => (if t116.toList = t104.toList then (some true) else (some false)))) else (some false)))) else (some false))) = some true := H
    have A5 := Aside0.mk A50
    clear A50
    replace H := Option.bind_eq_some_iff.mp H
    obtain ⟨t108, A60, H⟩ := H
    replace H : (if t108.toList = t104.toList then ((laws_toIntS.f k l0 false).bind fun t109 => ((laws_intactIntS.f k t105 t109).bind fun t112 => (if t112 = true then ((laws_toIntS.f k l0 true).bind fun t113 => ((impl_FormatList.f k t113).bind fun t116 => (if t116.toList = t104.toList then (some true) else (some false)))) else (some false)))) else (some false)) = some true := H
    have A6 := Aside0.mk A60
    clear A60
    by_cases c7 : t108.toList = t104.toList
    · rw [if_pos c7] at H
      have c7b0 : (t108.toList == t104.toList) = true := beq_iff_eq.mpr c7
      have c7b1 : (t108.toList != t104.toList) = false := bne_eq_false_iff_eq.mpr c7
      clear c7
      replace H := Option.bind_eq_some_iff.mp H
      obtain ⟨t109, A80, H⟩ := H
      replace H : ((laws_intactIntS.f k t105 t109).bind fun t112 => (if t112 = true then ((laws_toIntS.f k l0 true).bind fun t113 => ((impl_FormatList.f k t113).bind fun t116 => (if t116.toList = t104.toList then (some true) else (some false)))) else (some false))) = some true := H
      have A8 := Aside0.mk A80
      clear A80
      replace H := Option.bind_eq_some_iff.mp H
      obtain ⟨t112, A90, H⟩ := H
      replace H : (if t112 = true then ((laws_toIntS.f k l0 true).bind fun t113 => ((impl_FormatList.f k t113).bind fun t116 => (if t116.toList = t104.toList then (some true) else (some false)))) else (some false)) = some true := H
      have A9 := Aside0.mk A90
      clear A90
      by_cases c10 : t112 = true
      · subst c10
        have H1 : ((laws_toIntS.f k l0 true).bind fun t113 => ((impl_FormatList.f k t113).bind fun t116 => (if t116.toList = t104.toList then (some true) else (some false)))) = some true := by rw [if_pos rfl] at H; exact H
        clear H
        have H := H1
        clear H1
        replace H := Option.bind_eq_some_iff.mp H
        obtain ⟨t113, A110, H⟩ := H
        replace H : ((impl_FormatList.f k t113).bind fun t116 => (if t116.toList = t104.toList then (some true) else (some false))) = some true := H
        have A11 := Aside0.mk A110
        clear A110
        replace H := Option.bind_eq_some_iff.mp H
        obtain ⟨t116, A120, H⟩ := H
        replace H : (if t116.toList = t104.toList then (some true) else (some false)) = some true := H
        have A12 := Aside0.mk A120
        clear A120
        by_cases c13 : t116.toList = t104.toList
        · rw [if_pos c13] at H
          have c13b0 : (t116.toList == t104.toList) = true := beq_iff_eq.mpr c13
          have c13b1 : (t116.toList != t104.toList) = false := bne_eq_false_iff_eq.mpr c13
          clear c13
          (first | (obtain rfl := Option.some.inj H) | clear H)
          go_enter Tryd.func6, Tryd.ntmps6
          go_wp2_with (first | ((with_reducible refine gate_callee (f := 27) rfl ?_); refine goesL_ (some 11) rfl rfl Tryd.func27 (by kernel_rfl) rfl #[.slice A0 l0.length c0, .bool false] rfl (by (try simp only [List.map_toArray, List.map_cons, List.map_nil]); first | done | rfl | (simp only [List.length_drop, List.length_take]; rfl)) ?_; (with_reducible refine (laws_toIntS.callsX k _ _ l0 false t101 _ ?side1 ?side2 A3.out).mono ?_); (case side1 => repeat (first | exact HR0.out | (with_reducible refine Kd.C_alloc ?_ _) | (with_reducible refine Kd.C_drewN ?_ _) | (with_reducible refine Kd.C_drew ?_))); (case side2 => exact HC0.out); rintro e w14 ⟨v102, rfl, ho0, hb⟩; refine ⟨_, rfl, ?_⟩; have n0_ := Aside0.mk (Kd.X_lower ho0 (below_size (by repeat (first | (with_reducible first | exact HB.out | apply below_alloc | apply pw_below_drewN | apply below_drew1) | exact HB.out)))); have n1_ := Aside0.mk (below_step (by repeat (first | (with_reducible first | exact HB.out | apply below_alloc | apply pw_below_drewN | apply below_drew1) | exact HB.out)) hb); clear HB; have HO103 := n0_; have HB := n1_; clear n0_ n1_; (try clear hb); (try clear hb2); (try clear hk); (try clear hi); (try clear ho0); obtain ⟨Ao15, co15, eo15⟩ := Kd.X_slice HO103.out; subst eo15) | ((with_reducible refine gate_callee (f := 31) rfl ?_); refine goesL_ (some 12) rfl rfl Tryd.func31 (by kernel_rfl) rfl #[.slice Ao15 t101.length co15] rfl (by (try simp only [List.map_toArray, List.map_cons, List.map_nil]); first | done | rfl | (simp only [List.length_drop, List.length_take]; rfl)) ?_; (with_reducible refine (spec_FormatList.calls k _ _ t101 t104 _ ?side1 ?side2 A4.out).mono ?_); (case side1 => repeat (first | exact (Kd.X_reads' HO103.out).2.2 | (with_reducible refine Kd.C_alloc ?_ _) | (with_reducible refine Kd.C_drewN ?_ _) | (with_reducible refine Kd.C_drew ?_))); (case side2 => exact (Kd.X_reads' HO103.out).2.1); rintro e w16 ⟨rfl, hb⟩; refine ⟨_, rfl, ?_⟩; have n0_ := Aside0.mk (Kd.X_below (by (with_reducible repeat (first | apply Kd.X_alloc | apply Kd.X_drewN | apply Kd.X_drew)); exact HO103.out) hb); have n1_ := Aside0.mk (below_step (by repeat (first | (with_reducible first | exact HB.out | apply below_alloc | apply pw_below_drewN | apply below_drew1) | exact HB.out)) hb); clear HO103; clear HB; have HO103 := n0_; have HB := n1_; clear n0_ n1_; (try clear hb); (try clear hb2); (try clear hk); (try clear hi)) | ((with_reducible refine gate_callee (f := 27) rfl ?_); refine goesL_ (some 14) rfl rfl Tryd.func27 (by kernel_rfl) rfl #[.slice A0 l0.length c0, .bool false] rfl (by (try simp only [List.map_toArray, List.map_cons, List.map_nil]); first | done | rfl | (simp only [List.length_drop, List.length_take]; rfl)) ?_; (with_reducible refine (laws_toIntS.callsX k _ _ l0 false t105 _ ?side1 ?side2 A5.out).mono ?_); (case side1 => repeat (first | exact (Kd.C_below HR0.out HB.out) | (with_reducible refine Kd.C_alloc ?_ _) | (with_reducible refine Kd.C_drewN ?_ _) | (with_reducible refine Kd.C_drew ?_))); (case side2 => exact HC0.out); rintro e w17 ⟨v106, rfl, ho0, hb⟩; refine ⟨_, rfl, ?_⟩; have n0_ := Aside0.mk (Kd.X_elder' (by (with_reducible repeat (first | apply Kd.X_alloc | apply Kd.X_drewN | apply Kd.X_drew)); exact HO103.out) (Kd.X_base ho0) hb); have n1_ := Aside0.mk (Kd.X_lower (Kd.X_new' ho0 (Kd.X_lt (by (with_reducible repeat (first | apply Kd.X_alloc | apply Kd.X_drewN | apply Kd.X_drew)); exact HO103.out))) (below_size (by repeat (first | (with_reducible first | exact HB.out | apply below_alloc | apply pw_below_drewN | apply below_drew1) | exact HB.out)))); have n2_ := Aside0.mk (below_step (by repeat (first | (with_reducible first | exact HB.out | apply below_alloc | apply pw_below_drewN | apply below_drew1) | exact HB.out)) hb); clear HO103; clear HB; have HO103 := n0_; have HO107 := n1_; have HB := n2_; clear n0_ n1_ n2_; (try clear hb); (try clear hb2); (try clear hk); (try clear hi); (try clear ho0); obtain ⟨Ao18, co18, eo18⟩ := Kd.X_slice HO107.out; subst eo18) | ((with_reducible refine gate_callee (f := 32) rfl ?_); refine goesL_ (some 16) rfl rfl Tryd.func32 (by kernel_rfl) rfl #[.slice Ao18 t105.length co18] rfl (by (try simp only [List.map_toArray, List.map_cons, List.map_nil]); first | done | rfl | (simp only [List.length_drop, List.length_take]; rfl)) ?_; (with_reducible refine (impl_FormatList.calls k _ _ t105 t108 _ ?side1 ?side2 ?side3 A6.out).mono ?_); (case side1 => repeat (first | exact (Kd.X_reads' HO107.out).2.2 | (with_reducible refine Kd.C_alloc ?_ _) | (with_reducible refine Kd.C_drewN ?_ _) | (with_reducible refine Kd.C_drew ?_))); (case side2 => exact (Kd.X_reads' HO107.out).2.1); (case side3 => exact Tb.later HT.out (by repeat (first | (with_reducible first | exact HB.out | apply below_alloc | apply pw_below_drewN | apply below_drew1) | exact HB.out))); rintro e w19 ⟨rfl, hb⟩; refine ⟨_, rfl, ?_⟩; have n0_ := Aside0.mk (Kd.X_below (by (with_reducible repeat (first | apply Kd.X_alloc | apply Kd.X_drewN | apply Kd.X_drew)); exact HO103.out) hb); have n1_ := Aside0.mk (Kd.X_below (by (with_reducible repeat (first | apply Kd.X_alloc | apply Kd.X_drewN | apply Kd.X_drew)); exact HO107.out) hb); have n2_ := Aside0.mk (below_step (by repeat (first | (with_reducible first | exact HB.out | apply below_alloc | apply pw_below_drewN | apply below_drew1) | exact HB.out)) hb); clear HO103; clear HO107; clear HB; have HO103 := n0_; have HO107 := n1_; have HB := n2_; clear n0_ n1_ n2_; (try clear hb); (try clear hb2); (try clear hk); (try clear hi)) | ((with_reducible refine gate_callee (f := 27) rfl ?_); refine goesL_ (some 22) rfl rfl Tryd.func27 (by kernel_rfl) rfl #[.slice A0 l0.length c0, .bool false] rfl (by (try simp only [List.map_toArray, List.map_cons, List.map_nil]); first | done | rfl | (simp only [List.length_drop, List.length_take]; rfl)) ?_; (with_reducible refine (laws_toIntS.callsX k _ _ l0 false t109 _ ?side1 ?side2 A8.out).mono ?_); (case side1 => repeat (first | exact (Kd.C_below HR0.out HB.out) | (with_reducible refine Kd.C_alloc ?_ _) | (with_reducible refine Kd.C_drewN ?_ _) | (with_reducible refine Kd.C_drew ?_))); (case side2 => exact HC0.out); rintro e w20 ⟨v110, rfl, ho0, hb⟩; refine ⟨_, rfl, ?_⟩; have n0_ := Aside0.mk (Kd.X_elder' (by (with_reducible repeat (first | apply Kd.X_alloc | apply Kd.X_drewN | apply Kd.X_drew)); exact HO103.out) (Kd.X_base ho0) hb); have n1_ := Aside0.mk (Kd.X_elder' (by (with_reducible repeat (first | apply Kd.X_alloc | apply Kd.X_drewN | apply Kd.X_drew)); exact HO107.out) (Kd.X_base ho0) hb); have n2_ := Aside0.mk (Kd.X_lower (Kd.X_new' (Kd.X_new' ho0 (Kd.X_lt (by (with_reducible repeat (first | apply Kd.X_alloc | apply Kd.X_drewN | apply Kd.X_drew)); exact HO103.out))) (Kd.X_lt (by (with_reducible repeat (first | apply Kd.X_alloc | apply Kd.X_drewN | apply Kd.X_drew)); exact HO107.out))) (below_size (by repeat (first | (with_reducible first | exact HB.out | apply below_alloc | apply pw_below_drewN | apply below_drew1) | exact HB.out)))); have n3_ := Aside0.mk (below_step (by repeat (first | (with_reducible first | exact HB.out | apply below_alloc | apply pw_below_drewN | apply below_drew1) | exact HB.out)) hb); clear HO103; clear HO107; clear HB; have HO103 := n0_; have HO107 := n1_; have HO111 := n2_; have HB := n3_; clear n0_ n1_ n2_ n3_; (try clear hb); (try clear hb2); (try clear hk); (try clear hi); (try clear ho0); obtain ⟨Ao21, co21, eo21⟩ := Kd.X_slice HO111.out; subst eo21) | ((with_reducible refine gate_callee (f := 30) rfl ?_); refine goesL_ (some 23) rfl rfl Tryd.func30 (by kernel_rfl) rfl #[.slice Ao18 t105.length co18, .slice Ao21 t109.length co21] rfl (by (try simp only [List.map_toArray, List.map_cons, List.map_nil]); first | done | rfl | (simp only [List.length_drop, List.length_take]; rfl)) ?_; (with_reducible refine (laws_intactIntS.calls k _ _ t105 _ _ t109 true _ ?side1 ?side2 ?side3 ?side4 A9.out).mono ?_); (case side1 => repeat (first | exact (Kd.R_reads' (Kd.X_full HO107.out)).2.2 | (with_reducible refine Kd.C_alloc ?_ _) | (with_reducible refine Kd.C_drewN ?_ _) | (with_reducible refine Kd.C_drew ?_))); (case side2 => exact (Kd.R_reads' (Kd.X_full HO107.out)).2.1); (case side3 => repeat (first | exact (Kd.R_reads' (Kd.X_full HO111.out)).2.2 | (with_reducible refine Kd.C_alloc ?_ _) | (with_reducible refine Kd.C_drewN ?_ _) | (with_reducible refine Kd.C_drew ?_))); (case side4 => exact (Kd.R_reads' (Kd.X_full HO111.out)).2.1); rintro e w' ⟨rfl, ⟨nd, rfl⟩⟩; refine ⟨_, rfl, ?_⟩) | ((with_reducible refine gate_callee (f := 27) rfl ?_); refine goesL_ (some 26) rfl rfl Tryd.func27 (by kernel_rfl) rfl #[.slice A0 l0.length c0, .bool true] rfl (by (try simp only [List.map_toArray, List.map_cons, List.map_nil]); first | done | rfl | (simp only [List.length_drop, List.length_take]; rfl)) ?_; (with_reducible refine (laws_toIntS.calls k _ _ l0 true t113 _ ?side1 ?side2 A11.out).mono ?_); (case side1 => repeat (first | exact (Kd.C_below HR0.out (by repeat (first | (with_reducible first | exact HB.out | apply below_alloc | apply pw_below_drewN | apply below_drew1) | exact HB.out))) | (with_reducible refine Kd.C_alloc ?_ _) | (with_reducible refine Kd.C_drewN ?_ _) | (with_reducible refine Kd.C_drew ?_))); (case side2 => exact HC0.out); rintro e w22 ⟨v114, rfl, ho0, hb⟩; refine ⟨_, rfl, ?_⟩; have n0_ := Aside0.mk (Kd.X_elder' (by (with_reducible repeat (first | apply Kd.X_alloc | apply Kd.X_drewN | apply Kd.X_drew)); exact HO103.out) (Kd.R_base ho0) hb); have n1_ := Aside0.mk (Kd.X_elder' (by (with_reducible repeat (first | apply Kd.X_alloc | apply Kd.X_drewN | apply Kd.X_drew)); exact HO107.out) (Kd.R_base ho0) hb); have n2_ := Aside0.mk (Kd.X_elder' (by (with_reducible repeat (first | apply Kd.X_alloc | apply Kd.X_drewN | apply Kd.X_drew)); exact HO111.out) (Kd.R_base ho0) hb); have n3_ := Aside0.mk (Kd.R_lower (Kd.R_new' (Kd.R_new' (Kd.R_new' ho0 (Kd.X_lt (by (with_reducible repeat (first | apply Kd.X_alloc | apply Kd.X_drewN | apply Kd.X_drew)); exact HO103.out))) (Kd.X_lt (by (with_reducible repeat (first | apply Kd.X_alloc | apply Kd.X_drewN | apply Kd.X_drew)); exact HO107.out))) (Kd.X_lt (by (with_reducible repeat (first | apply Kd.X_alloc | apply Kd.X_drewN | apply Kd.X_drew)); exact HO111.out))) (below_size (by repeat (first | (with_reducible first | exact HB.out | apply below_alloc | apply pw_below_drewN | apply below_drew1) | exact HB.out)))); have n4_ := Aside0.mk (below_step (by repeat (first | (with_reducible first | exact HB.out | apply below_alloc | apply pw_below_drewN | apply below_drew1) | exact HB.out)) hb); clear HO103; clear HO107; clear HO111; clear HB; have HO103 := n0_; have HO107 := n1_; have HO111 := n2_; have HO115 := n3_; have HB := n4_; clear n0_ n1_ n2_ n3_ n4_; (try clear hb); (try clear hb2); (try clear hk); (try clear hi); (try clear ho0); obtain ⟨Ao23, co23, eo23⟩ := Kd.R_slice HO115.out; subst eo23) | ((with_reducible refine gate_callee (f := 32) rfl ?_); refine goesL_ (some 27) rfl rfl Tryd.func32 (by kernel_rfl) rfl #[.slice Ao23 t113.length co23] rfl (by (try simp only [List.map_toArray, List.map_cons, List.map_nil]); first | done | rfl | (simp only [List.length_drop, List.length_take]; rfl)) ?_; (with_reducible refine (impl_FormatList.calls k _ _ t113 t116 _ ?side1 ?side2 ?side3 A12.out).mono ?_); (case side1 => repeat (first | exact (Kd.R_reads' HO115.out).2.2 | (with_reducible refine Kd.C_alloc ?_ _) | (with_reducible refine Kd.C_drewN ?_ _) | (with_reducible refine Kd.C_drew ?_))); (case side2 => exact (Kd.R_reads' HO115.out).2.1); (case side3 => exact Tb.later HT.out (by repeat (first | (with_reducible first | exact HB.out | apply below_alloc | apply pw_below_drewN | apply below_drew1) | exact HB.out))); rintro e w24 ⟨rfl, hb⟩; refine ⟨_, rfl, ?_⟩; have n0_ := Aside0.mk (Kd.X_below (by (with_reducible repeat (first | apply Kd.X_alloc | apply Kd.X_drewN | apply Kd.X_drew)); exact HO103.out) hb); have n1_ := Aside0.mk (Kd.X_below (by (with_reducible repeat (first | apply Kd.X_alloc | apply Kd.X_drewN | apply Kd.X_drew)); exact HO107.out) hb); have n2_ := Aside0.mk (Kd.X_below (by (with_reducible repeat (first | apply Kd.X_alloc | apply Kd.X_drewN | apply Kd.X_drew)); exact HO111.out) hb); have n3_ := Aside0.mk (Kd.R_below (by (with_reducible repeat (first | apply Kd.R_alloc | apply Kd.R_drewN | apply Kd.R_drew)); exact HO115.out) hb); have n4_ := Aside0.mk (below_step (by repeat (first | (with_reducible first | exact HB.out | apply below_alloc | apply pw_below_drewN | apply below_drew1) | exact HB.out)) hb); clear HO103; clear HO107; clear HO111; clear HO115; clear HB; have HO103 := n0_; have HO107 := n1_; have HO111 := n2_; have HO115 := n3_; have HB := n4_; clear n0_ n1_ n2_ n3_ n4_; (try clear hb); (try clear hb2); (try clear hk); (try clear hi)))
          go_ret
          exact ⟨by first | rfl | (simp [errW_none, errW_some] <;> rfl) | (simp [*, errW_none, errW_some] <;> rfl), by repeat (first | (with_reducible first | exact HB.out | apply below_alloc | apply pw_below_drewN | apply below_drew1) | exact HB.out)⟩
        · rw [if_neg c13] at H
          have c13b0 : (t116.toList == t104.toList) = false := beq_eq_false_iff_ne.mpr c13
          have c13b1 : (t116.toList != t104.toList) = true := bne_iff_ne.mpr c13
          exact absurd H (by simp)
      · replace c10 := Bool.eq_false_iff.mpr c10
        subst c10
        have H1 : (some false) = some true := by rw [if_neg (show ¬ (false = true) by decide)] at H; exact H
        clear H
        have H := H1
        clear H1
        exact absurd H (by simp)
    · rw [if_neg c7] at H
      have c7b0 : (t108.toList == t104.toList) = false := beq_eq_false_iff_ne.mpr c7
      have c7b1 : (t108.toList != t104.toList) = true := bne_iff_ne.mpr c7
      exact absurd H (by simp)

def laws_FnExactFormatList.Pure : Prop := ∀ (l0 : List Int), l0.length ≤ maxLen → l0.length * 8 ≤ 140737488351232 → (∀ x ∈ l0, (Lit.int .i64 x).wf = true) → ∃ k, laws_FnExactFormatList.f k l0 = some true
theorem laws_FnExactFormatList.walk (P : laws_FnExactFormatList.Pure) (a0 : Option Addr) (len0 cap0 : Nat) (z0 : List Int) (w : World) (w0 : (a0 = none ∧ len0 = 0 ∧ cap0 = 0 ∧ z0 = []) ∨ ∃ x, a0 = some x ∧ len0 ≤ cap0 ∧ cap0 ≤ maxLen ∧ z0.length = cap0 ∧ (∀ i, i < z0.length → w.cell? (x.add i) = some (.int .i64 (z0.getD i 0))) ∧ ∀ n ∈ z0, (Lit.int .i64 n).wf = true) (y0 : len0 * 8 ≤ 140737488351232) (hT : Tb 3 w) :
    Calls Tryd.prog 6 #[.slice a0 len0 cap0] w fun e w' => e = .returned (.bool true) ∧ Below w.heap.size w w' := by
  obtain ⟨l0, rfl, hr0, hm0, hw0, hc0⟩ := ReadsInt.ofRowC w0
  obtain ⟨k, h⟩ := P l0 hm0 y0 hw0
  refine (laws_FnExactFormatList.calls k _ _ l0 w (Kd.C_of_reads (d := (0 : Int)) (h1 := fun _ => rfl) hr0) hc0 hT h).mono ?_
  rintro e w' ⟨he, hd⟩
  exact ⟨he, hd⟩

end Go.Proofs.YtakgeblhdckccaaDoor.Q
