-- written by p2.py (ours) out of the translation
import Derived.Test.YtakgeblhdckccaaDoorQ0
import Derived.Test.YtakgeblhdckccaaDoorQLawsRoomBehind
import Derived.Test.YtakgeblhdckccaaDoorQLawsEqIntS
namespace Go.Proofs.YtakgeblhdckccaaDoor.Q
open Go.RowKit Go.Proofs.YtakgeblhdckccaaDoorW.PrintWords Go.Proofs.YtakgeblhdckccaaDoorW.PrintLast Go.Proofs.YtakgeblhdckccaaDoorW.PrintMore
attribute [local go_sem] max2_int min2_int max_two min_two max_three min_three max_four min_four   -- for this text's walks alone
set_option linter.unusedVariables false
set_option linter.unusedSimpArgs false

/-! ### laws_intactIntS: function 30 -/
def laws_intactIntS.f (k : Nat) (l0 : List Int) (l1 : List Int) : Option (Bool) := if l0.length = l1.length ∧ l1.length ≤ 35184372088832 then laws_eqIntS.f k (spared l0) (spared l1) else none
set_option maxHeartbeats 8000000 in
set_option maxRecDepth 100000 in
theorem laws_intactIntS.calls (k : Nat) (A0 : Option Addr) (c0 : Nat) (l0 : List Int) (A1 : Option Addr) (c1 : Nat) (l1 : List Int) (r : Bool) (w : World) (hr0 : Kd.C (Kd.int .i64) w A0 (spared l0).length (spared l0)) (hc0 : (spared l0).length ≤ c0) (hr1 : Kd.C (Kd.int .i64) w A1 (spared l1).length (spared l1)) (hc1 : (spared l1).length ≤ c1) (h : laws_intactIntS.f k l0 l1 = some r) :
    Calls Tryd.prog 30 #[.slice A0 l0.length c0, .slice A1 l1.length c1] w fun e w' => e = .returned (.bool r) ∧ Drawn0 w w' := by
  have H : (if l0.length = l1.length ∧ l1.length ≤ 35184372088832 then laws_eqIntS.f k (spared l0) (spared l1) else none) = some r := h
  clear h
  by_cases hl : l0.length = l1.length ∧ l1.length ≤ 35184372088832
  case neg => rw [if_neg hl] at H; exact absurd H (by simp)
  rw [if_pos hl] at H
  have A10 := Aside0.mk H
  clear H
  obtain ⟨hl0, hl1⟩ := hl
  have hrm : roomOf l1.length ≤ l1.length + 1 := by unfold roomOf; split <;> (try split) <;> omega
  have hs0 : (spared l0).length = l1.length + roomOf l1.length := by rw [spared_len, hl0]
  have hs1 : (spared l1).length = l1.length + roomOf l1.length := spared_len l1
  have A3 := Aside0.mk (laws_roomBehind.room l1.length hl1)
  obtain ⟨t162, ht162⟩ : ∃ t : Int, (roomOf l1.length : Int) = t := ⟨_, rfl⟩
  rw [ht162] at A3
  obtain ⟨ji5, hji5⟩ : ∃ j_ : Int, (wrap64 ((l1.length : Int) + t162)) = j_ := ⟨_, rfl⟩
  have hjv : ji5 = ((spared l1).length : Int) := by rw [← hji5, hs1]; unfold wrap64; omega
  have hji5w : (IntKind.i64.wrap ((l1.length : Int) + t162)) = ji5 := (i64_w _).trans hji5
  have hp : 0 ≤ ji5 := by omega
  have hp0 : ji5 ≤ (c0 : Int) := by omega
  have hp1 : ji5 ≤ (c1 : Int) := by omega
  obtain ⟨i011, hi011, _, hsz11, _⟩ := info_parts info3
  have hcut0 := cut_cap (P := Tryd.prog) 23 3 .i64 Tryd.underlying23 hi011 A0 l0.length c0 ji5 hp hp0
  have hcut1 := cut_cap (P := Tryd.prog) 23 3 .i64 Tryd.underlying23 hi011 A1 l1.length c1 ji5 hp hp1
  have hj0 : ji5.toNat = (spared l0).length := by omega
  have hj1 : ji5.toNat = (spared l1).length := by omega
  rw [hj0] at hcut0
  rw [hj1] at hcut1
  have HR0 := Aside0.mk hr0
  have HC0 := Aside0.mk hc0
  have HR1 := Aside0.mk hr1
  have HC1 := Aside0.mk hc1
  have c4b0 : ((l0.length : Int) == (l1.length : Int)) = true := by rw [hl0]; exact beq_self_eq_true _
  have c4b2 : (l0.length == l1.length) = true := by rw [hl0]; exact beq_self_eq_true _
  clear hr0 hc0 hr1 hc1 hl0 hl1 hrm hs0 hs1 ht162 hji5 hjv hp hp0 hp1 hi011 hsz11 hj0 hj1
  go_enter Tryd.func30, Tryd.ntmps30
  go_wp2_with (first | (go_at_call 64; (with_reducible refine (laws_roomBehind.calls (l1.length : Int) t162 _ A3.out).mono ?_); rintro e w' ⟨rfl, ⟨nd, rfl⟩⟩; (try first | exact ⟨rfl, _, World.drewN_drewN _ _ _⟩ | exact ⟨rfl, _, Eq.trans (World.drewN_drewN _ _ _) (congrArg (World.drewN _) (Nat.add_assoc _ _ _))⟩)) | (go_at_call 67; (with_reducible refine (laws_eqIntS.calls k _ _ (spared l0) _ _ (spared l1) r _ ?side1 ?side2 ?side3 ?side4 A10.out).mono ?_); (case side1 => repeat (first | exact HR0.out | (with_reducible refine Kd.C_alloc ?_ _) | (with_reducible refine Kd.C_drewN ?_ _) | (with_reducible refine Kd.C_drew ?_))); (case side2 => exact HC0.out); (case side3 => repeat (first | exact HR1.out | (with_reducible refine Kd.C_alloc ?_ _) | (with_reducible refine Kd.C_drewN ?_ _) | (with_reducible refine Kd.C_drew ?_))); (case side4 => exact HC1.out); rintro e w' ⟨rfl, ⟨nd, rfl⟩⟩; (try first | exact ⟨rfl, _, World.drewN_drewN _ _ _⟩ | exact ⟨rfl, _, Eq.trans (World.drewN_drewN _ _ _) (congrArg (World.drewN _) (Nat.add_assoc _ _ _))⟩)))
  repeat (go_quiet (first | (go_at_call 64; (with_reducible refine (laws_roomBehind.calls (l1.length : Int) t162 _ A3.out).mono ?_); rintro e w' ⟨rfl, ⟨nd, rfl⟩⟩; (try first | exact ⟨rfl, _, World.drewN_drewN _ _ _⟩ | exact ⟨rfl, _, Eq.trans (World.drewN_drewN _ _ _) (congrArg (World.drewN _) (Nat.add_assoc _ _ _))⟩)) | (go_at_call 67; (with_reducible refine (laws_eqIntS.calls k _ _ (spared l0) _ _ (spared l1) r _ ?side1 ?side2 ?side3 ?side4 A10.out).mono ?_); (case side1 => repeat (first | exact HR0.out | (with_reducible refine Kd.C_alloc ?_ _) | (with_reducible refine Kd.C_drewN ?_ _) | (with_reducible refine Kd.C_drew ?_))); (case side2 => exact HC0.out); (case side3 => repeat (first | exact HR1.out | (with_reducible refine Kd.C_alloc ?_ _) | (with_reducible refine Kd.C_drewN ?_ _) | (with_reducible refine Kd.C_drew ?_))); (case side4 => exact HC1.out); rintro e w' ⟨rfl, ⟨nd, rfl⟩⟩; (try first | exact ⟨rfl, _, World.drewN_drewN _ _ _⟩ | exact ⟨rfl, _, Eq.trans (World.drewN_drewN _ _ _) (congrArg (World.drewN _) (Nat.add_assoc _ _ _))⟩))); try go_wp2)
  go_ret
  exact ⟨by first | rfl | (simp; done) | (simp [*]; done), by repeat (first | exact Drawn0.refl _ | apply Drawn0.step)⟩

end Go.Proofs.YtakgeblhdckccaaDoor.Q
