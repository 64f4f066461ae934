/- Whether bags are sets that hold all edges: the program's answer. -/
import Derived.Test.YtakgeblhdckccaaGSJ
import Derived.Test.YtakgeblhdckccaaGNJ
import Derived.Test.YtakgeblhdckccaaQj3
namespace Go.Proofs.Ytakgeblhdckccaa.P
open Go.RowKit Go.Proofs.YtakgeblhdckccaaW.PrintWords Go.Proofs.YtakgeblhdckccaaW.PrintLast Go.Proofs.YtakgeblhdckccaaW.PrintMore Go.Proofs.Ytakgeblhdckccaa.Q
set_option linter.unusedVariables false

noncomputable def cd (p : Prop) : Bool := @decide p (Classical.propDecidable p)
theorem cd_true {p : Prop} (h : p) : cd p = true := @decide_eq_true p (Classical.propDecidable p) h
theorem cd_false {p : Prop} (h : ¬p) : cd p = false := @decide_eq_false p (Classical.propDecidable p) h
theorem cd_iff {p q : Prop} (h : p ↔ q) : cd p = cd q := by
  by_cases hp : p
  · rw [cd_true hp, cd_true (h.1 hp)]
  · rw [cd_false hp, cd_false (fun hq => hp (h.2 hq))]
theorem V.uniq {n : Nat} {R R' : Nat → Nat} (h : V n R) (h' : V n R') (e : rows n R = rows n R') : R = R' := by
  funext v
  have h1 := rd_rows h v
  have h2 := rd_rows h' v
  rw [e, h2] at h1
  exact_mod_cast h1.symm

/-! ### the bags -/
def bg (bs : List Int) (i : Nat) : Nat := (bs.getD i 0).toNat
def bagsOk (n : Nat) (bs : List Int) : Prop := ∀ i, i < bs.length → 0 ≤ bs.getD i 0 ∧ bs.getD i 0 ≤ ((2 ^ n - 1 : Nat) : Int)
def held (bs : List Int) : Nat → Nat → Nat
  | 0, _ => 0
  | i + 1, v => if (bg bs i).testBit v then held bs i v ||| bg bs i else held bs i v
def edgesOk (n : Nat) (R : Nat → Nat) (bs : List Int) : Prop := ∀ v, v < n → sd (R v) (held bs bs.length v) = 0
section
variable {n : Nat} {R : Nat → Nat} {bs ps : List Int}
theorem bg_rd {i : Nat} (h : 0 ≤ bs.getD i 0) : rd bs (i : Int) = ((bg bs i : Nat) : Int) := by rw [rd_nat]; unfold bg; omega
theorem bg_lt {i : Nat} (h : 0 ≤ bs.getD i 0 ∧ bs.getD i 0 ≤ ((2 ^ n - 1 : Nat) : Int)) : bg bs i < 2 ^ n := by
  have := Nat.two_pow_pos n
  unfold bg; omega
theorem held_lt {i : Nat} (h : ∀ j, j < i → 0 ≤ bs.getD j 0 ∧ bs.getD j 0 ≤ ((2 ^ n - 1 : Nat) : Int)) (v : Nat) : held bs i v < 2 ^ n := by
  induction i with
  | zero => exact Nat.two_pow_pos n
  | succ i ih =>
    rw [held]
    have h1 := ih (fun j hj => h j (by omega))
    split
    · exact or_lt h1 (bg_lt (h i (by omega)))
    · exact h1
theorem listSet_ev {S : Nat} (hS : S < 256) : Ev (fun k => impl_ListSet.f k (S : Int)) (ints (bl S)) := by
  have hL : Ev (fun k => impl_ListSet.l0 k (S : Int) [] ((0 : Nat) : Int)) (ints (bl S)) := by
    refine up_ev' (σ := List Int) (fun k i x => impl_ListSet.l0 k (S : Int) x (i : Int)) 8 (fun i x => x = ints ((List.range i).filter S.testBit)) _ ?_ ?_ 0 [] (by omega) (by simp [ints])
    · intro i x hi hx ih
      subst hx
      have hlen : (ints ((List.range i).filter S.testBit)).length < 17592186044416 := by
        have := bl_upto_len S i
        rw [ints_len]; omega
      by_cases hb : S.testBit i = true
      · refine Ev.late_step 0 (fun k _ => ?_) (ih (ints ((List.range i).filter S.testBit) ++ [(i : Int)]) (by rw [range_filter_succ, if_pos hb, ints_app]; rfl))
        simp only [impl_ListSet.l0]
        rw [if_pos (by omega), impl_has_f (by omega) (by omega), Option.bind_some, if_pos hb, if_pos hlen, wrap_succ (by omega)]
      · refine Ev.late_step 0 (fun k _ => ?_) (ih (ints ((List.range i).filter S.testBit)) (by rw [range_filter_succ, if_neg hb, List.append_nil]))
        simp only [impl_ListSet.l0]
        rw [if_pos (by omega), impl_has_f (by omega) (by omega), Option.bind_some, if_neg hb, wrap_succ (by omega)]
    · intro x hx
      subst hx
      exact Ev.one fun k => by simp only [impl_ListSet.l0]; rw [if_neg (by omega)]; rfl
  refine Ev.late_eq 0 (fun k _ => ?_) hL
  unfold impl_ListSet.f
  rw [impl_isSet_f, Option.bind_some, decide_eq_true (by omega), if_pos rfl]
  rfl
theorem rd_intsL {l : List Nat} {i : Nat} (h : i < l.length) : rd (ints l) (i : Int) = ((l[i] : Nat) : Int) := by
  rw [rd_nat]; simp [ints, List.getD_eq_getElem?_getD, h]
theorem bl_nodup (S : Nat) : (bl S).Nodup := List.Pairwise.filter _ List.nodup_range
theorem not_in_take {l : List Nat} (h : l.Nodup) {i : Nat} (hi : i < l.length) : l[i] ∉ l.take i := by
  intro hm
  obtain ⟨j, hj, e⟩ := List.mem_take_iff_getElem.1 hm
  have hji : j < i := by omega
  exact List.pairwise_iff_getElem.1 h j i (by omega) hi hji e
theorem mem_take_succ {l : List Nat} {i : Nat} (hi : i < l.length) (v : Nat) : v ∈ l.take (i + 1) ↔ v ∈ l.take i ∨ v = l[i] := by
  rw [List.take_add_one, List.mem_append, List.getElem?_eq_getElem hi]
  simp
theorem bl_lt {S : Nat} (hS : S < 2 ^ n) {v : Nat} (h : v ∈ bl S) : v < n := by
  have h1 := (bl_mem h).2
  apply Classical.byContradiction
  intro hc
  rw [lt_iff_bits.1 hS v (by omega)] at h1
  cases h1
theorem mem_bl_iff (hn : n ≤ 8) {S : Nat} (hS : S < 2 ^ n) (v : Nat) : v ∈ bl S ↔ S.testBit v = true := by
  constructor
  · exact fun h => (bl_mem h).2
  · intro h
    refine mem_bl ?_ h
    apply Classical.byContradiction
    intro hc
    rw [lt_iff_bits.1 hS v (by omega)] at h
    cases h
/-- The table of what is held with each vertex, after i bags. -/
structure Held (n : Nat) (bs : List Int) (i : Nat) (x : List Int) : Prop where
  len : x.length = n
  val : ∀ v, v < n → rd x (v : Int) = ((held bs i v : Nat) : Int)
theorem areBags_ev (hV : V n R) (hm : bs.length ≤ 1000000) : Ev (fun k => impl_Graph_areBags.f k (n : Int) (rows n R) bs) (cd (bagsOk n bs ∧ edgesOk n R bs)) := by
  have hn := hV.le
  have hp := small_pow hn
  have L2 : bagsOk n bs → ∀ x, Held n bs bs.length x → Ev (fun k => impl_Graph_areBags.l2 k x (rows n R) ((rows n R).length : Int) ((0 : Nat) : Int)) (cd (bagsOk n bs ∧ edgesOk n R bs)) := by
    intro hb x hx
    refine upto_ev (fun k i => impl_Graph_areBags.l2 k x (rows n R) ((rows n R).length : Int) (i : Int)) n (fun i => ∀ v, v < i → sd (R v) (held bs bs.length v) = 0) _ ?_ ?_ 0 (Nat.zero_le _) (fun v hv => by omega)
    · intro i hi hinv ih
      have hl := hx.len
      have e : Go.bits .andNot .i64 (rd (rows n R) (i : Int)) (rd x (i : Int)) = ((sd (R i) (held bs bs.length i) : Nat) : Int) := by
        rw [rd_rows hV, hx.val i hi]
        exact andNot_nat (lt62 hn (hV.lt' i)) (lt62 hn (held_lt hb i))
      by_cases h0 : sd (R i) (held bs bs.length i) = 0
      · refine Ev.late_step 0 (fun k _ => ?_) (ih fun v hv => ?_)
        · simp only [impl_Graph_areBags.l2]
          rw [rows_len, if_pos (by omega), if_pos (by omega), if_pos (by omega), if_pos (by omega), e, if_pos (by omega), wrap_succ (by omega)]
        · by_cases ev : v = i
          · rw [ev]; exact h0
          · exact hinv v (by omega)
      · rw [cd_false (fun h => h0 (h.2 i hi))]
        refine Ev.one fun k => ?_
        simp only [impl_Graph_areBags.l2]
        rw [rows_len, if_pos (by omega), if_pos (by omega), if_pos (by omega), if_pos (by omega), e, if_neg (by omega)]
    · intro hinv
      rw [cd_true ⟨hb, hinv⟩]
      refine Ev.one fun k => ?_
      simp only [impl_Graph_areBags.l2]
      rw [rows_len, if_neg (by omega)]
  have L0 : Ev (fun k => impl_Graph_areBags.l0 k (List.replicate n 0) bs (bs.length : Int) ((0 : Nat) : Int) (n : Int) (rows n R)) (cd (bagsOk n bs ∧ edgesOk n R bs)) := by
    refine up_ev' (σ := List Int) (fun k i x => impl_Graph_areBags.l0 k x bs (bs.length : Int) (i : Int) (n : Int) (rows n R)) bs.length (fun i x => Held n bs i x ∧ ∀ j, j < i → 0 ≤ bs.getD j 0 ∧ bs.getD j 0 ≤ ((2 ^ n - 1 : Nat) : Int)) _ ?_ ?_ 0 _ (Nat.zero_le _) ⟨⟨by simp, fun v hv => by rw [rd_nat]; simp [held, List.getD_eq_getElem?_getD, hv]⟩, fun j hj => by omega⟩
    · intro i x hi ⟨hx, hj⟩ ih
      have hxl := hx.len
      by_cases hin : 0 ≤ bs.getD i 0 ∧ bs.getD i 0 ≤ ((2 ^ n - 1 : Nat) : Int)
      · have hS := bg_lt hin
        have e := bg_rd hin.1
        obtain ⟨K, hK⟩ := listSet_ev (lt_256 hn hS)
        have L1 : Ev (fun k => impl_Graph_areBags.l1 k x (rd bs (i : Int)) bs (bs.length : Int) (i : Int) (ints (bl (bg bs i))) ((ints (bl (bg bs i))).length : Int) ((0 : Nat) : Int) (n : Int) (rows n R)) (cd (bagsOk n bs ∧ edgesOk n R bs)) := by
          refine up_ev' (σ := List Int) (fun k q y => impl_Graph_areBags.l1 k y (rd bs (i : Int)) bs (bs.length : Int) (i : Int) (ints (bl (bg bs i))) ((ints (bl (bg bs i))).length : Int) (q : Int) (n : Int) (rows n R)) (bl (bg bs i)).length (fun q y => y.length = n ∧ ∀ v, v < n → rd y (v : Int) = ((if v ∈ (bl (bg bs i)).take q then held bs i v ||| bg bs i else held bs i v : Nat) : Int)) _ ?_ ?_ 0 x (Nat.zero_le _) ⟨hxl, fun v hv => by rw [List.take_zero, if_neg List.not_mem_nil]; exact hx.val v hv⟩
          · intro q y hq ⟨hy, hyv⟩ ih2
            have h8 := bl_len (bg bs i)
            have hw := bl_lt hS (List.getElem_mem hq)
            generalize hwe : (bl (bg bs i))[q] = w at hw
            have hnew : w ∉ (bl (bg bs i)).take q := by rw [← hwe]; exact not_in_take (bl_nodup _) hq
            refine Ev.late_step 0 (fun k _ => ?_) (ih2 (y.set w ((held bs i w ||| bg bs i : Nat) : Int)) ⟨by simp [hy], fun v hv => ?_⟩)
            · simp only [impl_Graph_areBags.l1]
              rw [ints_len, if_pos (by omega), if_pos (by omega), if_pos (by omega), rd_intsL hq, hwe, if_pos (by omega), if_pos (by omega), hyv w hw, if_neg hnew, e, or_nat (lt62 hn (held_lt hj w)) (lt62 hn hS), Int.toNat_natCast, wrap_succ (by omega)]
            · by_cases ev : v = w
              · subst ev
                rw [rd_nat]
                rw [if_pos ((mem_take_succ hq v).2 (.inr hwe.symm))]
                simp [List.getD_eq_getElem?_getD, hy, hv]
              · have : rd (y.set w ((held bs i w ||| bg bs i : Nat) : Int)) (v : Int) = rd y (v : Int) := by
                  rw [rd_nat, rd_nat]; simp [List.getD_eq_getElem?_getD, List.getElem?_set_ne (show w ≠ v from fun h => ev h.symm)]
                rw [this, hyv v hv]
                congr 1
                by_cases hmem : v ∈ (bl (bg bs i)).take q
                · rw [if_pos hmem, if_pos ((mem_take_succ hq v).2 (.inl hmem))]
                · rw [if_neg hmem, if_neg]
                  intro hc
                  rcases (mem_take_succ hq v).1 hc with h | h
                  · exact hmem h
                  · exact ev (h.trans hwe)
          · intro y ⟨hy, hyv⟩
            refine Ev.late_step 0 (fun k _ => ?_) (ih y ⟨⟨hy, fun v hv => ?_⟩, fun j hj2 => ?_⟩)
            · simp only [impl_Graph_areBags.l1]
              rw [ints_len, if_neg (by omega), wrap_succ (by omega)]
            · rw [hyv v hv, List.take_length, held]
              congr 1
              by_cases hb : (bg bs i).testBit v = true
              · rw [if_pos hb, if_pos ((mem_bl_iff hn hS v).2 hb)]
              · rw [if_neg hb, if_neg (fun h => hb ((mem_bl_iff hn hS v).1 h))]
            · by_cases ej : j = i
              · rw [ej]; exact hin
              · exact hj j (by omega)
        refine Ev.late_step K (fun k hk => ?_) L1
        have e2 := hK k hk
        simp only at e2
        simp only [impl_Graph_areBags.l0]
        rw [if_pos (by omega), if_pos (by omega), if_pos (by omega), impl_all_f (by omega), Option.bind_some, impl_in_f, Option.bind_some]
        rw [decide_eq_true (by rw [rd_nat]; exact hin), if_pos rfl]
        rw [e, e2, Option.bind_some]
        rfl
      · rw [cd_false (fun h => hin (h.1 i hi))]
        refine Ev.one fun k => ?_
        simp only [impl_Graph_areBags.l0]
        rw [if_pos (by omega), if_pos (by omega), if_pos (by omega), impl_all_f (by omega), Option.bind_some, impl_in_f, Option.bind_some]
        rw [decide_eq_false (by rw [rd_nat]; exact hin), if_neg (by decide)]
    · intro x ⟨hx, hj⟩
      refine Ev.late_step 0 (fun k _ => ?_) (L2 hj x hx)
      simp only [impl_Graph_areBags.l0]
      rw [if_neg (by omega)]
      rfl
  refine Ev.late_eq 0 (fun k _ => ?_) L0
  unfold impl_Graph_areBags.f
  rw [if_pos (by omega), if_pos (by omega), Int.toNat_natCast]
  rfl
end
end Go.Proofs.Ytakgeblhdckccaa.P
