/- The list of a set's members, as the program makes it. -/
import Derived.Test.YtlfjmklhifjalaaDoorGSJ
import Derived.Test.YtlfjmklhifjalaaDoorGIJ
import Derived.Test.YtlfjmklhifjalaaDoorQj0
namespace Go.Proofs.YtlfjmklhifjalaaDoor.P
open Go.RowKit Go.Proofs.YtlfjmklhifjalaaDoorW.PrintWords Go.Proofs.YtlfjmklhifjalaaDoorW.PrintLast Go.Proofs.YtlfjmklhifjalaaDoorW.PrintMore Go.Proofs.YtlfjmklhifjalaaDoor.Q
set_option linter.unusedVariables false
theorem listSet_imp {S : Nat} (hS : S < 256) : Ev (fun k => impl_ListSet.f k (S : Int)) (ints (bl S)) := by
  have hL : Ev (fun k => impl_ListSet.l0 k (S : Int) [] ((0 : Nat) : Int)) (ints (bl S)) := by
    refine up_ev' (σ := List Int) (fun k i x => impl_ListSet.l0 k (S : Int) x (i : Int)) 8 (fun i x => x = ints ((List.range i).filter S.testBit)) _ ?_ ?_ 0 [] (by omega) (by simp [ints])
    · intro i x hi hx ih
      subst hx
      have hlen : (ints ((List.range i).filter S.testBit)).length < 17592186044416 := by
        have := bl_upto_len S i
        rw [ints_len]; omega
      by_cases hb : S.testBit i = true
      · refine Ev.late_step 0 (fun k _ => ?_) (ih (ints ((List.range i).filter S.testBit) ++ [(i : Int)]) (by rw [range_filter_succ, if_pos hb, ints_app]; rfl))
        simp only [impl_ListSet.l0]
        rw [if_pos (by omega), impl_has_f (by omega) (by omega), Option.bind_some, if_pos hb, if_pos hlen, wrap_succ (by omega)]
      · refine Ev.late_step 0 (fun k _ => ?_) (ih (ints ((List.range i).filter S.testBit)) (by rw [range_filter_succ, if_neg hb, List.append_nil]))
        simp only [impl_ListSet.l0]
        rw [if_pos (by omega), impl_has_f (by omega) (by omega), Option.bind_some, if_neg hb, wrap_succ (by omega)]
    · intro x hx
      subst hx
      exact Ev.one fun k => by simp only [impl_ListSet.l0]; rw [if_neg (by omega)]; rfl
  refine Ev.late_eq 0 (fun k _ => ?_) hL
  unfold impl_ListSet.f
  rw [impl_isSet_f, Option.bind_some, decide_eq_true (by omega), if_pos rfl]
  rfl
end Go.Proofs.YtlfjmklhifjalaaDoor.P
