/- Lists of sets as text. -/
import Derived.Test.YtlfjmklhifjalaaDoorGJJ
import Derived.Test.YtlfjmklhifjalaaDoorGLJ
import Derived.Test.YtlfjmklhifjalaaDoorGNJ
import Derived.Test.YtlfjmklhifjalaaDoorQj0
namespace Go.Proofs.YtlfjmklhifjalaaDoor.P
open Go.RowKit Go.Proofs.YtlfjmklhifjalaaDoorW.PrintWords Go.Proofs.YtlfjmklhifjalaaDoorW.PrintLast Go.Proofs.YtlfjmklhifjalaaDoorW.PrintMore Go.Proofs.YtlfjmklhifjalaaDoor.Q
set_option linter.unusedVariables false
theorem loop_len (s : ByteArray) : ∀ d i r, s.size - i = d → (ByteArray.toList.loop s i r).length = r.length + d := by
  intro d
  induction d with
  | zero => intro i r h; rw [ByteArray.toList.loop, if_neg (by omega)]; simp
  | succ d ih => intro i r h; rw [ByteArray.toList.loop, if_pos (by omega), ih (i + 1) _ (by omega), List.length_cons]; omega
theorem toList_len (s : ByteArray) : s.toList.length = s.size := by rw [ByteArray.toList, loop_len s s.size 0 [] (by omega)]; simp
/-- The members' numerals, one behind the other. -/
def dgs (l : List Nat) : List UInt8 := (l.map fun (v : Nat) => Lib.itoa (v : Int)).flatten
theorem dgs_snoc (l : List Nat) (v : Nat) : dgs (l ++ [v]) = dgs l ++ Lib.itoa (v : Int) := by simp [dgs]
theorem dgs_len (l : List Nat) (h : ∀ v ∈ l, v < 8) : (dgs l).length = l.length := by
  induction l with
  | nil => rfl
  | cons v l ih =>
    have h1 := h v (by simp)
    have h2 := ih (fun w hw => h w (by simp [hw]))
    have e : (Lib.itoa (v : Int)).length = 1 := by
      unfold Lib.itoa
      rw [if_neg (by omega), Int.toNat_natCast, dec_small (by omega)]
      rfl
    simp only [dgs, List.map_cons, List.flatten_cons, List.length_append, List.length_cons] at h2 ⊢
    rw [e]
    omega
/-- A number as the text of a set. -/
def setT (x : Int) : List UInt8 := if 0 ≤ x ∧ x ≤ 255 then (if x = 0 then [45] else dgs (bl x.toNat)) else []
theorem setT_len (x : Int) : (setT x).length ≤ 50 := by
  unfold setT
  split
  · split
    · simp
    · rw [dgs_len _ (fun v hv => (bl_mem hv).1)]
      have := bl_len x.toNat
      omega
  · simp
theorem bl_ne : ∀ S, S < 256 → S ≠ 0 → bl S ≠ [] := by decide +kernel
theorem impl_isSet_all (x : Int) : impl_isSet.f x = some (decide (0 ≤ x ∧ x ≤ 255)) := by
  unfold impl_isSet.f
  simp [impl_in_f]
theorem ints_at {l : List Nat} {i : Nat} (hi : i < l.length) : rd (ints l) (i : Int) = ((l[i] : Nat) : Int) := by
  rw [rd_nat]
  simp [ints, List.getD_eq_getElem?_getD, hi]
theorem formatSet_impl (x : Int) : Ev (fun k => impl_FormatSet.f k x) (B (setT x)) := by
  unfold setT
  by_cases h : 0 ≤ x ∧ x ≤ 255
  · rw [if_pos h]
    by_cases h0 : x = 0
    · subst h0
      rw [if_pos rfl]
      refine Ev.some fun k => ?_
      unfold impl_FormatSet.f
      rw [impl_isSet_all, decide_eq_true h, Option.bind_some, if_pos rfl, if_pos rfl]
      rfl
    · rw [if_neg h0]
      obtain ⟨S, rfl⟩ : ∃ S : Nat, x = (S : Int) := ⟨x.toNat, by omega⟩
      rw [Int.toNat_natCast]
      have h8 := bl_len S
      have hL : Ev (fun k => impl_FormatSet.l0 k (B (dgs ((bl S).take 0))) (ints (bl S)) ((bl S).length : Int) ((0 : Nat) : Int)) (B (dgs (bl S))) := by
        refine upto_ev (fun k i => impl_FormatSet.l0 k (B (dgs ((bl S).take i))) (ints (bl S)) ((bl S).length : Int) (i : Int)) (bl S).length (fun _ => True) _ ?_ ?_ 0 (Nat.zero_le _) trivial
        · intro i hi _ ih
          have hv := bl_mem (List.getElem_mem hi)
          have n1 := itoa_len (((bl S)[i] : Nat) : Int) (by omega) (by omega)
          have n2 := dgs_len ((bl S).take i) (fun v hv => (bl_mem (List.mem_of_mem_take hv)).1)
          rw [List.length_take] at n2
          refine Ev.late_step 0 (fun k _ => ?_) (ih trivial)
          simp only [impl_FormatSet.l0]
          rw [if_pos (by omega), if_pos (by omega), if_pos (by rw [ints_len]; omega), ints_at hi, formatInt_impl _ (by omega) (by omega), Option.bind_some, B_size, B_size, if_pos (by omega), B_app, wrap_succ (by omega), ← dgs_snoc, ← List.take_succ_eq_append_getElem hi]
        · intro _
          refine Ev.one fun k => ?_
          simp only [impl_FormatSet.l0]
          rw [if_neg (by omega), List.take_length]
      obtain ⟨K, h1⟩ := listSet_imp (S := S) (by omega)
      refine Ev.late_eq K (fun k hk => ?_) hL
      have e := h1 k hk
      simp only at e
      unfold impl_FormatSet.f
      rw [impl_isSet_all, decide_eq_true h, Option.bind_some, if_pos rfl, if_neg h0, e, Option.bind_some, ints_len]
      rfl
  · rw [if_neg h]
    refine Ev.some fun k => ?_
    unfold impl_FormatSet.f
    rw [impl_isSet_all, decide_eq_false h, Option.bind_some, if_neg (by decide)]
    rfl
theorem formatSet_spec (x : Int) : Ev (fun k => spec_FormatSet.f k x) (B (setT x)) := by
  unfold setT
  by_cases h : 0 ≤ x ∧ x ≤ 255
  · rw [if_pos h]
    obtain ⟨S, rfl⟩ : ∃ S : Nat, x = (S : Int) := ⟨x.toNat, by omega⟩
    rw [Int.toNat_natCast]
    have h8 := bl_len S
    have hL : Ev (fun k => spec_FormatSet.l0 k (B (dgs ((bl S).take 0))) (ints (bl S)) ((bl S).length : Int) ((0 : Nat) : Int)) (B (if (S : Int) = 0 then [45] else dgs (bl S))) := by
      refine upto_ev (fun k i => spec_FormatSet.l0 k (B (dgs ((bl S).take i))) (ints (bl S)) ((bl S).length : Int) (i : Int)) (bl S).length (fun _ => True) _ ?_ ?_ 0 (Nat.zero_le _) trivial
      · intro i hi _ ih
        have hv := bl_mem (List.getElem_mem hi)
        have n1 := itoa_len (((bl S)[i] : Nat) : Int) (by omega) (by omega)
        have n2 := dgs_len ((bl S).take i) (fun v hv => (bl_mem (List.mem_of_mem_take hv)).1)
        rw [List.length_take] at n2
        obtain ⟨K, h1⟩ := formatInt_spec (((bl S)[i] : Nat) : Int) (by omega) (by omega)
        refine Ev.late_step K (fun k hk => ?_) (ih trivial)
        have e := h1 k hk
        simp only at e
        simp only [spec_FormatSet.l0]
        rw [if_pos (by omega), if_pos (by omega), if_pos (by rw [ints_len]; omega), ints_at hi, e, Option.bind_some, B_size, B_size, if_pos (by omega), B_app, wrap_succ (by omega), ← dgs_snoc, ← List.take_succ_eq_append_getElem hi]
      · intro _
        refine Ev.one fun k => ?_
        have hd : (B (dgs (bl S))).toList = ([] : List UInt8) ↔ (S : Int) = 0 := by
          have n3 := toList_len (B (dgs (bl S)))
          rw [B_size, dgs_len (bl S) (fun v hv => (bl_mem hv).1)] at n3
          constructor
          · intro h0
            apply Classical.byContradiction
            intro hc
            rw [h0] at n3
            exact bl_ne S (by omega) (by omega) (List.length_eq_zero_iff.1 n3.symm)
          · intro h0
            obtain rfl : S = 0 := by omega
            exact List.length_eq_zero_iff.1 (by rw [n3]; rfl)
        simp only [spec_FormatSet.l0]
        rw [if_neg (by omega), List.take_length]
        by_cases h0 : (S : Int) = 0
        · rw [if_pos (hd.2 h0), if_pos h0]; rfl
        · rw [if_neg (fun h => h0 (hd.1 h)), if_neg h0]
    obtain ⟨K, h1⟩ := list_spec_ev (S := S) (by omega)
    refine Ev.late_eq K (fun k hk => ?_) hL
    have e := h1 k hk
    simp only at e
    unfold spec_FormatSet.f
    rw [spec_l01In_f, decide_eq_true h, Option.bind_some, if_pos rfl, e, Option.bind_some, ints_len]
    rfl
  · rw [if_neg h]
    refine Ev.some fun k => ?_
    unfold spec_FormatSet.f
    rw [spec_l01In_f, decide_eq_false h, Option.bind_some, if_neg (by decide)]
    rfl
def stxt (l : List Int) : List (List UInt8) := l.map setT
theorem formatSets_both (l : List Int) (hl : l.length ≤ 1000000) : ∃ r, Ev (fun k => impl_FormatSets.f k l) r ∧ Ev (fun k => spec_FormatSets.f k l) r := by
  have hx : ∀ x ∈ stxt l, x.length ≤ 50 := by
    intro x hx
    obtain ⟨n, _, rfl⟩ := List.mem_map.1 hx
    exact setT_len n
  have hlen : (stxt l).length = l.length := by simp [stxt]
  have hgo : ∀ i, i < l.length → (stxt (l.take i)).map B ++ [B (setT (l.getD i 0))] = (stxt (l.take (i + 1))).map B := by
    intro i hi
    have e : l.getD i 0 = l[i] := by simp [List.getD_eq_getElem?_getD, hi]
    rw [e, List.take_succ_eq_append_getElem hi]
    unfold stxt
    rw [List.map_append, List.map_append]
    rfl
  have c32 : (⟨#[32]⟩ : ByteArray) = B [32] := rfl
  by_cases hn : l = []
  · subst hn
    refine ⟨⟨#[45]⟩, Ev.some fun k => rfl, Ev.one fun k => ?_⟩
    simp [spec_FormatSets.f, spec_FormatSets.l0]
  · have hpos : 0 < l.length := List.length_pos_iff.2 hn
    refine ⟨B (Lib.join (stxt l) [32]), ?_, ?_⟩
    · have hL : Ev (fun k => impl_FormatSets.l0 k ((stxt (l.take 0)).map B) l (l.length : Int) ((0 : Nat) : Int)) (B (Lib.join (stxt l) [32])) := by
        refine upto_ev (fun k i => impl_FormatSets.l0 k ((stxt (l.take i)).map B) l (l.length : Int) (i : Int)) l.length (fun _ => True) _ ?_ ?_ 0 (Nat.zero_le _) trivial
        · intro i hi _ ih
          obtain ⟨K, h⟩ := formatSet_impl (l.getD i 0)
          refine Ev.late_step K (fun k hk => ?_) (ih trivial)
          have e := h k hk
          simp only at e
          simp only [impl_FormatSets.l0]
          rw [if_pos (by omega), if_pos (by omega), if_pos (by omega), rd_nat, e, Option.bind_some, if_pos (by simp [stxt]; omega), wrap_succ (by omega), hgo i hi]
        · intro _
          refine Ev.one fun k => ?_
          simp only [impl_FormatSets.l0]
          rw [if_neg (by omega), List.take_length, c32, implJoin2_f _ _ hx (by omega), Option.bind_some]
      refine Ev.late_eq 0 (fun k _ => ?_) hL
      unfold impl_FormatSets.f
      rw [if_neg (by omega)]
      rfl
    · have hL : Ev (fun k => spec_FormatSets.l0 k ((stxt (l.take 0)).map B) l (l.length : Int) ((0 : Nat) : Int)) (B (Lib.join (stxt l) [32])) := by
        refine upto_ev (fun k i => spec_FormatSets.l0 k ((stxt (l.take i)).map B) l (l.length : Int) (i : Int)) l.length (fun _ => True) _ ?_ ?_ 0 (Nat.zero_le _) trivial
        · intro i hi _ ih
          obtain ⟨K, h⟩ := formatSet_spec (l.getD i 0)
          refine Ev.late_step K (fun k hk => ?_) (ih trivial)
          have e := h k hk
          simp only at e
          simp only [spec_FormatSets.l0]
          rw [if_pos (by omega), if_pos (by omega), if_pos (by omega), rd_nat, e, Option.bind_some, if_pos (by simp [stxt]; omega), wrap_succ (by omega), hgo i hi]
        · intro _
          obtain ⟨K, h⟩ := specJoin2_ev 32 (stxt l) hx (by omega)
          refine Ev.late K (fun k hk => ?_)
          have e := h k hk
          simp only at e
          simp only [spec_FormatSets.l0]
          rw [if_neg (by omega), List.take_length, if_neg (by rw [List.length_map, hlen]; omega), c32, e, Option.bind_some]
      exact hL
end Go.Proofs.YtlfjmklhifjalaaDoor.P
