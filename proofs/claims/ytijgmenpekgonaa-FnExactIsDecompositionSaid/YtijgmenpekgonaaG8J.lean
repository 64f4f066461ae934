/- When a decomposition is in order: the program and the reference answer alike. -/
import Derived.Test.YtijgmenpekgonaaGNJ
import Derived.Test.YtijgmenpekgonaaQj2
import Derived.Test.YtijgmenpekgonaaQj1
namespace Go.Proofs.Ytijgmenpekgonaa.P
open Go.RowKit Go.Proofs.YtijgmenpekgonaaW.PrintWords Go.Proofs.YtijgmenpekgonaaW.PrintLast Go.Proofs.YtijgmenpekgonaaW.PrintMore Go.Proofs.Ytijgmenpekgonaa.Q
set_option linter.unusedVariables false

noncomputable def cd (p : Prop) : Bool := @decide p (Classical.propDecidable p)
theorem cd_true {p : Prop} (h : p) : cd p = true := @decide_eq_true p (Classical.propDecidable p) h
theorem cd_false {p : Prop} (h : ¬p) : cd p = false := @decide_eq_false p (Classical.propDecidable p) h
theorem cd_iff {p q : Prop} (h : p ↔ q) : cd p = cd q := by
  by_cases hp : p
  · rw [cd_true hp, cd_true (h.1 hp)]
  · rw [cd_false hp, cd_false (fun hq => hp (h.2 hq))]
theorem V.uniq {n : Nat} {R R' : Nat → Nat} (h : V n R) (h' : V n R') (e : rows n R = rows n R') : R = R' := by
  funext v
  have h1 := rd_rows h v
  have h2 := rd_rows h' v
  rw [e, h2] at h1
  exact_mod_cast h1.symm

/-! ### the bags -/
def bg (bs : List Int) (i : Nat) : Nat := (bs.getD i 0).toNat
def bagsOk (n : Nat) (bs : List Int) : Prop := ∀ i, i < bs.length → 0 ≤ bs.getD i 0 ∧ bs.getD i 0 ≤ ((2 ^ n - 1 : Nat) : Int)
def held (bs : List Int) : Nat → Nat → Nat
  | 0, _ => 0
  | i + 1, v => if (bg bs i).testBit v then held bs i v ||| bg bs i else held bs i v
def edgesOk (n : Nat) (R : Nat → Nat) (bs : List Int) : Prop := ∀ v, v < n → sd (R v) (held bs bs.length v) = 0
section
variable {n : Nat} {R : Nat → Nat} {bs ps : List Int}
theorem bg_rd {i : Nat} (h : 0 ≤ bs.getD i 0) : rd bs (i : Int) = ((bg bs i : Nat) : Int) := by rw [rd_nat]; unfold bg; omega
theorem bg_lt {i : Nat} (h : 0 ≤ bs.getD i 0 ∧ bs.getD i 0 ≤ ((2 ^ n - 1 : Nat) : Int)) : bg bs i < 2 ^ n := by
  have := Nat.two_pow_pos n
  unfold bg; omega
theorem held_lt {i : Nat} (h : ∀ j, j < i → 0 ≤ bs.getD j 0 ∧ bs.getD j 0 ≤ ((2 ^ n - 1 : Nat) : Int)) (v : Nat) : held bs i v < 2 ^ n := by
  induction i with
  | zero => exact Nat.two_pow_pos n
  | succ i ih =>
    rw [held]
    have h1 := ih (fun j hj => h j (by omega))
    split
    · exact or_lt h1 (bg_lt (h i (by omega)))
    · exact h1
theorem listSet_ev {S : Nat} (hS : S < 256) : Ev (fun k => impl_ListSet.f k (S : Int)) (ints (bl S)) := by
  have hL : Ev (fun k => impl_ListSet.l0 k (S : Int) [] ((0 : Nat) : Int)) (ints (bl S)) := by
    refine up_ev' (σ := List Int) (fun k i x => impl_ListSet.l0 k (S : Int) x (i : Int)) 8 (fun i x => x = ints ((List.range i).filter S.testBit)) _ ?_ ?_ 0 [] (by omega) (by simp [ints])
    · intro i x hi hx ih
      subst hx
      have hlen : (ints ((List.range i).filter S.testBit)).length < 17592186044416 := by
        have := bl_upto_len S i
        rw [ints_len]; omega
      by_cases hb : S.testBit i = true
      · refine Ev.late_step 0 (fun k _ => ?_) (ih (ints ((List.range i).filter S.testBit) ++ [(i : Int)]) (by rw [range_filter_succ, if_pos hb, ints_app]; rfl))
        simp only [impl_ListSet.l0]
        rw [if_pos (by omega), impl_has_f (by omega) (by omega), Option.bind_some, if_pos hb, if_pos hlen, wrap_succ (by omega)]
      · refine Ev.late_step 0 (fun k _ => ?_) (ih (ints ((List.range i).filter S.testBit)) (by rw [range_filter_succ, if_neg hb, List.append_nil]))
        simp only [impl_ListSet.l0]
        rw [if_pos (by omega), impl_has_f (by omega) (by omega), Option.bind_some, if_neg hb, wrap_succ (by omega)]
    · intro x hx
      subst hx
      exact Ev.one fun k => by simp only [impl_ListSet.l0]; rw [if_neg (by omega)]; rfl
  refine Ev.late_eq 0 (fun k _ => ?_) hL
  unfold impl_ListSet.f
  rw [impl_isSet_f, Option.bind_some, decide_eq_true (by omega), if_pos rfl]
  rfl
theorem rd_ints {l : List Nat} {i : Nat} (h : i < l.length) : rd (ints l) (i : Int) = ((l[i] : Nat) : Int) := by
  rw [rd_nat]; simp [ints, List.getD_eq_getElem?_getD, h]
theorem bl_nodup (S : Nat) : (bl S).Nodup := List.Pairwise.filter _ List.nodup_range
theorem not_in_take {l : List Nat} (h : l.Nodup) {i : Nat} (hi : i < l.length) : l[i] ∉ l.take i := by
  intro hm
  obtain ⟨j, hj, e⟩ := List.mem_take_iff_getElem.1 hm
  have hji : j < i := by omega
  exact List.pairwise_iff_getElem.1 h j i (by omega) hi hji e
theorem mem_take_succ {l : List Nat} {i : Nat} (hi : i < l.length) (v : Nat) : v ∈ l.take (i + 1) ↔ v ∈ l.take i ∨ v = l[i] := by
  rw [List.take_add_one, List.mem_append, List.getElem?_eq_getElem hi]
  simp
theorem bl_lt {S : Nat} (hS : S < 2 ^ n) {v : Nat} (h : v ∈ bl S) : v < n := by
  have h1 := (bl_mem h).2
  apply Classical.byContradiction
  intro hc
  rw [lt_iff_bits.1 hS v (by omega)] at h1
  cases h1
theorem mem_bl_iff (hn : n ≤ 8) {S : Nat} (hS : S < 2 ^ n) (v : Nat) : v ∈ bl S ↔ S.testBit v = true := by
  constructor
  · exact fun h => (bl_mem h).2
  · intro h
    refine mem_bl ?_ h
    apply Classical.byContradiction
    intro hc
    rw [lt_iff_bits.1 hS v (by omega)] at h
    cases h
/-- The table of what is held with each vertex, after i bags. -/
structure Held (n : Nat) (bs : List Int) (i : Nat) (x : List Int) : Prop where
  len : x.length = n
  val : ∀ v, v < n → rd x (v : Int) = ((held bs i v : Nat) : Int)
theorem areBags_ev (hV : V n R) (hm : bs.length ≤ 1000000) : Ev (fun k => impl_Graph_areBags.f k (n : Int) (rows n R) bs) (cd (bagsOk n bs ∧ edgesOk n R bs)) := by
  have hn := hV.le
  have hp := small_pow hn
  have L2 : bagsOk n bs → ∀ x, Held n bs bs.length x → Ev (fun k => impl_Graph_areBags.l2 k x (rows n R) ((rows n R).length : Int) ((0 : Nat) : Int)) (cd (bagsOk n bs ∧ edgesOk n R bs)) := by
    intro hb x hx
    refine upto_ev (fun k i => impl_Graph_areBags.l2 k x (rows n R) ((rows n R).length : Int) (i : Int)) n (fun i => ∀ v, v < i → sd (R v) (held bs bs.length v) = 0) _ ?_ ?_ 0 (Nat.zero_le _) (fun v hv => by omega)
    · intro i hi hinv ih
      have hl := hx.len
      have e : Go.bits .andNot .i64 (rd (rows n R) (i : Int)) (rd x (i : Int)) = ((sd (R i) (held bs bs.length i) : Nat) : Int) := by
        rw [rd_rows hV, hx.val i hi]
        exact andNot_nat (lt62 hn (hV.lt' i)) (lt62 hn (held_lt hb i))
      by_cases h0 : sd (R i) (held bs bs.length i) = 0
      · refine Ev.late_step 0 (fun k _ => ?_) (ih fun v hv => ?_)
        · simp only [impl_Graph_areBags.l2]
          rw [rows_len, if_pos (by omega), if_pos (by omega), if_pos (by omega), if_pos (by omega), e, if_pos (by omega), wrap_succ (by omega)]
        · by_cases ev : v = i
          · rw [ev]; exact h0
          · exact hinv v (by omega)
      · rw [cd_false (fun h => h0 (h.2 i hi))]
        refine Ev.one fun k => ?_
        simp only [impl_Graph_areBags.l2]
        rw [rows_len, if_pos (by omega), if_pos (by omega), if_pos (by omega), if_pos (by omega), e, if_neg (by omega)]
    · intro hinv
      rw [cd_true ⟨hb, hinv⟩]
      refine Ev.one fun k => ?_
      simp only [impl_Graph_areBags.l2]
      rw [rows_len, if_neg (by omega)]
  have L0 : Ev (fun k => impl_Graph_areBags.l0 k (List.replicate n 0) bs (bs.length : Int) ((0 : Nat) : Int) (n : Int) (rows n R)) (cd (bagsOk n bs ∧ edgesOk n R bs)) := by
    refine up_ev' (σ := List Int) (fun k i x => impl_Graph_areBags.l0 k x bs (bs.length : Int) (i : Int) (n : Int) (rows n R)) bs.length (fun i x => Held n bs i x ∧ ∀ j, j < i → 0 ≤ bs.getD j 0 ∧ bs.getD j 0 ≤ ((2 ^ n - 1 : Nat) : Int)) _ ?_ ?_ 0 _ (Nat.zero_le _) ⟨⟨by simp, fun v hv => by rw [rd_nat]; simp [held, List.getD_eq_getElem?_getD, hv]⟩, fun j hj => by omega⟩
    · intro i x hi ⟨hx, hj⟩ ih
      have hxl := hx.len
      by_cases hin : 0 ≤ bs.getD i 0 ∧ bs.getD i 0 ≤ ((2 ^ n - 1 : Nat) : Int)
      · have hS := bg_lt hin
        have e := bg_rd hin.1
        obtain ⟨K, hK⟩ := listSet_ev (lt_256 hn hS)
        have L1 : Ev (fun k => impl_Graph_areBags.l1 k x (rd bs (i : Int)) bs (bs.length : Int) (i : Int) (ints (bl (bg bs i))) ((ints (bl (bg bs i))).length : Int) ((0 : Nat) : Int) (n : Int) (rows n R)) (cd (bagsOk n bs ∧ edgesOk n R bs)) := by
          refine up_ev' (σ := List Int) (fun k q y => impl_Graph_areBags.l1 k y (rd bs (i : Int)) bs (bs.length : Int) (i : Int) (ints (bl (bg bs i))) ((ints (bl (bg bs i))).length : Int) (q : Int) (n : Int) (rows n R)) (bl (bg bs i)).length (fun q y => y.length = n ∧ ∀ v, v < n → rd y (v : Int) = ((if v ∈ (bl (bg bs i)).take q then held bs i v ||| bg bs i else held bs i v : Nat) : Int)) _ ?_ ?_ 0 x (Nat.zero_le _) ⟨hxl, fun v hv => by rw [List.take_zero, if_neg List.not_mem_nil]; exact hx.val v hv⟩
          · intro q y hq ⟨hy, hyv⟩ ih2
            have h8 := bl_len (bg bs i)
            have hw := bl_lt hS (List.getElem_mem hq)
            generalize hwe : (bl (bg bs i))[q] = w at hw
            have hnew : w ∉ (bl (bg bs i)).take q := by rw [← hwe]; exact not_in_take (bl_nodup _) hq
            refine Ev.late_step 0 (fun k _ => ?_) (ih2 (y.set w ((held bs i w ||| bg bs i : Nat) : Int)) ⟨by simp [hy], fun v hv => ?_⟩)
            · simp only [impl_Graph_areBags.l1]
              rw [ints_len, if_pos (by omega), if_pos (by omega), if_pos (by omega), rd_ints hq, hwe, if_pos (by omega), if_pos (by omega), hyv w hw, if_neg hnew, e, or_nat (lt62 hn (held_lt hj w)) (lt62 hn hS), Int.toNat_natCast, wrap_succ (by omega)]
            · by_cases ev : v = w
              · subst ev
                rw [rd_nat]
                rw [if_pos ((mem_take_succ hq v).2 (.inr hwe.symm))]
                simp [List.getD_eq_getElem?_getD, hy, hv]
              · have : rd (y.set w ((held bs i w ||| bg bs i : Nat) : Int)) (v : Int) = rd y (v : Int) := by
                  rw [rd_nat, rd_nat]; simp [List.getD_eq_getElem?_getD, List.getElem?_set_ne (show w ≠ v from fun h => ev h.symm)]
                rw [this, hyv v hv]
                congr 1
                by_cases hmem : v ∈ (bl (bg bs i)).take q
                · rw [if_pos hmem, if_pos ((mem_take_succ hq v).2 (.inl hmem))]
                · rw [if_neg hmem, if_neg]
                  intro hc
                  rcases (mem_take_succ hq v).1 hc with h | h
                  · exact hmem h
                  · exact ev (h.trans hwe)
          · intro y ⟨hy, hyv⟩
            refine Ev.late_step 0 (fun k _ => ?_) (ih y ⟨⟨hy, fun v hv => ?_⟩, fun j hj2 => ?_⟩)
            · simp only [impl_Graph_areBags.l1]
              rw [ints_len, if_neg (by omega), wrap_succ (by omega)]
            · rw [hyv v hv, List.take_length, held]
              congr 1
              by_cases hb : (bg bs i).testBit v = true
              · rw [if_pos hb, if_pos ((mem_bl_iff hn hS v).2 hb)]
              · rw [if_neg hb, if_neg (fun h => hb ((mem_bl_iff hn hS v).1 h))]
            · by_cases ej : j = i
              · rw [ej]; exact hin
              · exact hj j (by omega)
        refine Ev.late_step K (fun k hk => ?_) L1
        have e2 := hK k hk
        simp only at e2
        simp only [impl_Graph_areBags.l0]
        rw [if_pos (by omega), if_pos (by omega), if_pos (by omega), impl_all_f (by omega), Option.bind_some, impl_in_f, Option.bind_some]
        rw [decide_eq_true (by rw [rd_nat]; exact hin), if_pos rfl]
        rw [e, e2, Option.bind_some]
        rfl
      · rw [cd_false (fun h => hin (h.1 i hi))]
        refine Ev.one fun k => ?_
        simp only [impl_Graph_areBags.l0]
        rw [if_pos (by omega), if_pos (by omega), if_pos (by omega), impl_all_f (by omega), Option.bind_some, impl_in_f, Option.bind_some]
        rw [decide_eq_false (by rw [rd_nat]; exact hin), if_neg (by decide)]
    · intro x ⟨hx, hj⟩
      refine Ev.late_step 0 (fun k _ => ?_) (L2 hj x hx)
      simp only [impl_Graph_areBags.l0]
      rw [if_neg (by omega)]
      rfl
  refine Ev.late_eq 0 (fun k _ => ?_) L0
  unfold impl_Graph_areBags.f
  rw [if_pos (by omega), if_pos (by omega), Int.toNat_natCast]
  rfl

/-! ### the parents and the tops -/
def parOk (bs ps : List Int) : Prop := ∀ i, i < bs.length → ps.getD i 0 = -1 ∨ ((i : Int) + 1 ≤ ps.getD i 0 ∧ ps.getD i 0 ≤ (bs.length : Int) - 1)
def top (bs ps : List Int) (v i : Nat) : Bool := (bg bs i).testBit v && (decide (ps.getD i 0 < 0) || !(bg bs (ps.getD i 0).toNat).testBit v)
def tops (bs ps : List Int) (v : Nat) : Nat → Nat
  | 0 => 0
  | i + 1 => if top bs ps v i then tops bs ps v i + 1 else tops bs ps v i
theorem tops_le (v i : Nat) : tops bs ps v i ≤ i := by
  induction i with
  | zero => exact Nat.le_refl _
  | succ i ih => rw [tops]; split <;> omega
theorem isTop_f (hn : n ≤ 8) (hb : bagsOk n bs) (hp : parOk bs ps) (hl : ps.length = bs.length) {i v : Nat} (hi : i < bs.length) (hv : v < n) : impl_Decomposition_isTop.f bs ps (i : Int) (v : Int) = some (top bs ps v i) := by
  unfold impl_Decomposition_isTop.f top
  rw [if_pos (by omega), if_pos (by omega), bg_rd (hb i hi).1, impl_has_f (lt62 hn (bg_lt (hb i hi))) (by omega), Option.bind_some]
  by_cases h1 : (bg bs i).testBit v = true
  · rw [if_pos h1, h1, Bool.true_and, if_pos (by omega), rd_nat]
    by_cases h2 : ps.getD i 0 < 0
    · rw [if_pos h2, decide_eq_true h2]; rfl
    · rw [if_neg h2, decide_eq_false h2, Bool.false_or]
      have h3 := hp i hi
      obtain ⟨q, hq⟩ : ∃ q : Nat, ps.getD i 0 = (q : Int) := ⟨(ps.getD i 0).toNat, by omega⟩
      have hq2 : q < bs.length := by omega
      rw [hq, if_pos (by omega), if_pos (by omega), bg_rd (hb q hq2).1, impl_has_f (lt62 hn (bg_lt (hb q hq2))) (by omega), Option.bind_some, Int.toNat_natCast]
  · rw [if_neg h1, show (bg bs i).testBit v = false by simpa using h1, Bool.false_and]
def topsOk (n : Nat) (bs ps : List Int) : Prop := ∀ v, v < n → tops bs ps v bs.length = 1
/-- A decomposition in order. -/
def DecOk (n : Nat) (R : Nat → Nat) (bs ps : List Int) : Prop := (1 ≤ bs.length ∧ bs.length ≤ 8) ∧ ps.length = bs.length ∧ (bagsOk n bs ∧ edgesOk n R bs) ∧ parOk bs ps ∧ topsOk n bs ps
theorem isDec_impl (hV : V n R) (hG : Ev (fun k => impl_GraphOk.f k (n : Int) (rows n R)) true) : Ev (fun k => impl_IsDecomposition.f k (n : Int) (rows n R) bs ps) (cd (DecOk n R bs ps)) := by
  have hn := hV.le
  obtain ⟨K, hK⟩ := hG
  -- the end
  have E : bs.length ≤ 8 → (1 ≤ bs.length) → ps.length = bs.length → (bagsOk n bs ∧ edgesOk n R bs) → Ev (fun k => impl_IsDecomposition.l0 k (bs.length : Int) ps (ps.length : Int) ((0 : Nat) : Int) (n : Int) (rows n R) bs ps) (cd (DecOk n R bs ps)) := by
    intro hm8 hm1 hl hb
    have L1 : parOk bs ps → Ev (fun k => impl_IsDecomposition.l1 k (n : Int) ((0 : Nat) : Int) bs ps) (cd (DecOk n R bs ps)) := by
      intro hp
      refine upto_ev (fun k v => impl_IsDecomposition.l1 k (n : Int) (v : Int) bs ps) n (fun v => ∀ u, u < v → tops bs ps u bs.length = 1) _ ?_ ?_ 0 (Nat.zero_le _) (fun u hu => by omega)
      · intro v hv hinv ih
        have L2 : Ev (fun k => impl_IsDecomposition.l2 k (v : Int) ((tops bs ps v 0 : Nat) : Int) (n : Int) (v : Int) (bs.length : Int) ((0 : Nat) : Int) bs ps) (cd (DecOk n R bs ps)) := by
          refine upto_ev (fun k i => impl_IsDecomposition.l2 k (v : Int) ((tops bs ps v i : Nat) : Int) (n : Int) (v : Int) (bs.length : Int) (i : Int) bs ps) bs.length (fun _ => True) _ ?_ ?_ 0 (Nat.zero_le _) trivial
          · intro i hi _ ih2
            have htl := tops_le (bs := bs) (ps := ps) v i
            refine Ev.late_step 0 (fun k _ => ?_) (ih2 trivial)
            simp only [impl_IsDecomposition.l2]
            rw [if_pos (by omega), isTop_f hn hb.1 hp hl hi hv, Option.bind_some, wrap_succ (by omega), wrap_succ (by omega), tops]
            cases top bs ps v i with
            | true => rw [if_pos rfl, if_pos rfl]
            | false => rw [if_neg (by decide), if_neg (by decide)]
          · intro _
            by_cases h1 : tops bs ps v bs.length = 1
            · refine Ev.late_step 0 (fun k _ => ?_) (ih fun u hu => ?_)
              · simp only [impl_IsDecomposition.l2]
                rw [if_neg (by omega), if_pos (by omega), wrap_succ (by omega)]
              · by_cases e : u = v
                · rw [e]; exact h1
                · exact hinv u (by omega)
            · rw [cd_false (fun h => h1 (h.2.2.2.2 v hv))]
              refine Ev.one fun k => ?_
              simp only [impl_IsDecomposition.l2]
              rw [if_neg (by omega), if_neg (by omega)]
        refine Ev.late_step 0 (fun k _ => ?_) L2
        simp only [impl_IsDecomposition.l1]
        rw [if_pos (by omega)]
        rfl
      · intro hinv
        rw [cd_true ⟨⟨hm1, hm8⟩, hl, hb, hp, hinv⟩]
        refine Ev.one fun k => ?_
        simp only [impl_IsDecomposition.l1]
        rw [if_neg (by omega)]
    refine upto_ev (fun k i => impl_IsDecomposition.l0 k (bs.length : Int) ps (ps.length : Int) (i : Int) (n : Int) (rows n R) bs ps) bs.length (fun i => ∀ j, j < i → ps.getD j 0 = -1 ∨ ((j : Int) + 1 ≤ ps.getD j 0 ∧ ps.getD j 0 ≤ (bs.length : Int) - 1)) _ ?_ ?_ 0 (Nat.zero_le _) (fun u hu => by omega)
    · intro i hi hinv ih
      by_cases h1 : ps.getD i 0 = -1
      · refine Ev.late_step 0 (fun k _ => ?_) (ih fun j hj => ?_)
        · simp only [impl_IsDecomposition.l0]
          rw [if_pos (by omega), if_pos (by omega), if_pos (by omega), rd_nat, if_pos h1, wrap_succ (by omega)]
        · by_cases e : j = i
          · rw [e]; exact .inl h1
          · exact hinv j (by omega)
      · by_cases h2 : (i : Int) + 1 ≤ ps.getD i 0 ∧ ps.getD i 0 ≤ (bs.length : Int) - 1
        · refine Ev.late_step 0 (fun k _ => ?_) (ih fun j hj => ?_)
          · simp only [impl_IsDecomposition.l0]
            rw [if_pos (by omega), if_pos (by omega), if_pos (by omega), rd_nat, if_neg h1, impl_in_f, Option.bind_some, wrap_succ (by omega), wrap_small (by omega) (by omega), decide_eq_true (by omega), if_pos rfl]
          · by_cases e : j = i
            · rw [e]; exact .inr h2
            · exact hinv j (by omega)
        · rw [cd_false (fun (h : DecOk n R bs ps) => (h.2.2.2.1 i hi).elim h1 h2)]
          refine Ev.one fun k => ?_
          simp only [impl_IsDecomposition.l0]
          rw [if_pos (by omega), if_pos (by omega), if_pos (by omega), rd_nat, if_neg h1, impl_in_f, Option.bind_some, wrap_succ (by omega), wrap_small (by omega) (by omega), decide_eq_false (by omega), if_neg (by decide)]
    · intro hinv
      refine Ev.late_step 0 (fun k _ => ?_) (L1 hinv)
      simp only [impl_IsDecomposition.l0]
      rw [if_neg (by omega)]
      rfl
  have bad : ¬ DecOk n R bs ps → ∀ k, impl_IsDecomposition.j0 (k + 1) (bs.length : Int) true (n : Int) (rows n R) bs ps = some (cd (DecOk n R bs ps)) := by
    intro h k
    rw [cd_false h]
    simp only [impl_IsDecomposition.j0]
    rw [if_pos trivial]
  by_cases hm : 1 ≤ bs.length ∧ bs.length ≤ 8
  · by_cases hl : ps.length = bs.length
    · obtain ⟨K2, hK2⟩ := areBags_ev hV (bs := bs) (by omega)
      by_cases hb : bagsOk n bs ∧ edgesOk n R bs
      · obtain ⟨K3, hK3⟩ := E hm.2 hm.1 hl hb
        refine ⟨K + K2 + K3 + 1, fun k hk => ?_⟩
        obtain ⟨k, rfl⟩ : ∃ q, k = q + 1 := ⟨k - 1, by omega⟩
        have e := hK (k + 1) (by omega)
        have e2 := hK2 (k + 1) (by omega)
        have e3 := hK3 k (by omega)
        simp only at e e2 e3 ⊢
        unfold impl_IsDecomposition.f
        rw [e, Option.bind_some, if_pos rfl, impl_in_f, Option.bind_some, decide_eq_true (by omega), if_pos rfl, if_pos (by omega), e2, Option.bind_some, cd_true hb]
        simp only [impl_IsDecomposition.j0, Bool.not_true]
        rw [if_neg (by decide)]
        exact e3
      · refine ⟨K + K2 + 1, fun k hk => ?_⟩
        obtain ⟨k, rfl⟩ : ∃ q, k = q + 1 := ⟨k - 1, by omega⟩
        have e := hK (k + 1) (by omega)
        have e2 := hK2 (k + 1) (by omega)
        simp only at e e2 ⊢
        unfold impl_IsDecomposition.f
        rw [e, Option.bind_some, if_pos rfl, impl_in_f, Option.bind_some, decide_eq_true (by omega), if_pos rfl, if_pos (by omega), e2, Option.bind_some, cd_false hb]
        exact bad (fun h => hb h.2.2.1) k
    · refine ⟨K + 1, fun k hk => ?_⟩
      obtain ⟨k, rfl⟩ : ∃ q, k = q + 1 := ⟨k - 1, by omega⟩
      have e := hK (k + 1) (by omega)
      simp only at e ⊢
      unfold impl_IsDecomposition.f
      rw [e, Option.bind_some, if_pos rfl, impl_in_f, Option.bind_some, decide_eq_true (by omega), if_pos rfl, if_neg (by omega)]
      exact bad (fun h => hl h.2.1) k
  · refine ⟨K + 1, fun k hk => ?_⟩
    obtain ⟨k, rfl⟩ : ∃ q, k = q + 1 := ⟨k - 1, by omega⟩
    have e := hK (k + 1) (by omega)
    simp only at e ⊢
    unfold impl_IsDecomposition.f
    rw [e, Option.bind_some, if_pos rfl, impl_in_f, Option.bind_some, decide_eq_false (by omega), if_neg (by decide)]
    exact bad (fun h => hm h.1) k
end
end Go.Proofs.Ytijgmenpekgonaa.P
