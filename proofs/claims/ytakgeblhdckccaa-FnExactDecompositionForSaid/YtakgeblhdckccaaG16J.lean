/- Elimination by filling in: who is met through eliminated vertices is who is a neighbor in the filled rows. -/
import Derived.Test.YtakgeblhdckccaaG12J
import Derived.Test.YtakgeblhdckccaaGLJ
import Derived.Test.YtakgeblhdckccaaQj2
namespace Go.Proofs.Ytakgeblhdckccaa.P
open Go.RowKit Go.Proofs.YtakgeblhdckccaaW.PrintWords Go.Proofs.YtakgeblhdckccaaW.PrintLast Go.Proofs.YtakgeblhdckccaaW.PrintMore Go.Proofs.Ytakgeblhdckccaa.Q
set_option linter.unusedVariables false

/-! ### links through a set -/
/-- There is a way from a to b whose inner vertices are all in S. -/
inductive Lk (R : Nat → Nat) (S a : Nat) : Nat → Prop where
  | edge {b : Nat} : (R a).testBit b = true → Lk R S a b
  | step {x b : Nat} : Lk R S a x → S.testBit x = true → (R x).testBit b = true → Lk R S a b
theorem Lk.comp {R : Nat → Nat} {S a x b : Nat} (h : Lk R S a x) (hx : S.testBit x = true) (h2 : Lk R S x b) : Lk R S a b := by
  induction h2 with
  | edge e => exact .step h hx e
  | step _ hy e ih => exact .step ih hy e
theorem Lk.symm {n : Nat} {R : Nat → Nat} (hV : V n R) {S a b : Nat} (h : Lk R S a b) : Lk R S b a := by
  induction h with
  | edge e => exact .edge (by rw [hV.sym']; exact e)
  | step _ hy e ih => exact (Lk.edge (by rw [hV.sym']; exact e)).comp hy ih
theorem Lk.mono {R : Nat → Nat} {S T a b : Nat} (hST : ∀ i, S.testBit i = true → T.testBit i = true) (h : Lk R S a b) : Lk R T a b := by
  induction h with
  | edge e => exact .edge e
  | step _ hy e ih => exact .step ih (hST _ hy) e
theorem or_bit_cases {S v i : Nat} : (S ||| 2 ^ v).testBit i = true ↔ S.testBit i = true ∨ i = v := by
  rw [Nat.testBit_or, bit_eq, Bool.or_eq_true, decide_eq_true_eq]
  constructor
  · rintro (h | h)
    · exact .inl h
    · exact .inr h.symm
  · rintro (h | h)
    · exact .inl h
    · exact .inr h.symm
/-- One vertex more may be passed. -/
theorem Lk.more {R : Nat → Nat} {S v a b : Nat} : Lk R (S ||| 2 ^ v) a b ↔ Lk R S a b ∨ (Lk R S a v ∧ Lk R S v b) := by
  constructor
  · intro h
    induction h with
    | edge e => exact .inl (.edge e)
    | step _ hx e ih =>
      rcases or_bit_cases.1 hx with hx | rfl
      · rcases ih with ih | ⟨h1, h2⟩
        · exact .inl (.step ih hx e)
        · exact .inr ⟨h1, .step h2 hx e⟩
      · rcases ih with ih | ⟨h1, _⟩
        · exact .inr ⟨ih, .edge e⟩
        · exact .inr ⟨h1, .edge e⟩
  · have hm : ∀ i, S.testBit i = true → (S ||| 2 ^ v).testBit i = true := fun i h => or_bit_cases.2 (.inl h)
    rintro (h | ⟨h1, h2⟩)
    · exact h.mono hm
    · exact (h1.mono hm).comp (or_bit_cases.2 (.inr rfl)) (h2.mono hm)
section
variable {n : Nat} {R : Nat → Nat}
theorem near_iff (hn : n ≤ 8) {S : Nat} (hS : S < 2 ^ n) (i : Nat) : (near R S).testBit i = true ↔ S.testBit i = true ∨ ∃ j, S.testBit j = true ∧ (R j).testBit i = true := by
  rw [near_bit, Bool.or_eq_true, List.any_eq_true]
  constructor
  · rintro (h | ⟨j, _, h⟩)
    · exact .inl h
    · rw [Bool.and_eq_true] at h
      exact .inr ⟨j, h⟩
  · rintro (h | ⟨j, h1, h2⟩)
    · exact .inl h
    · refine .inr ⟨j, ?_, by rw [h1, h2]; rfl⟩
      rw [List.mem_range]
      apply Classical.byContradiction
      intro hc
      rw [lt_iff_bits.1 hS j (by omega)] at h1
      cases h1
theorem part_iff (hV : V n R) {S a : Nat} (hS : S < 2 ^ n) (ha : a < n) (x : Nat) : (part n R (S ||| 2 ^ a) a).testBit x = true ↔ x = a ∨ (S.testBit x = true ∧ Lk R S a x) := by
  have hn := hV.le
  have hD := or_self_bit S a
  have hDl := or_bit_lt hS ha
  constructor
  · have go : ∀ i x, (grow R (S ||| 2 ^ a) a i).testBit x = true → x = a ∨ (S.testBit x = true ∧ Lk R S a x) := by
      intro i
      induction i with
      | zero =>
        intro x h
        rw [grow, bit_eq] at h
        exact .inl (of_decide_eq_true h).symm
      | succ i ih =>
        intro x h
        rw [grow, Nat.testBit_and, Bool.and_eq_true, or_bit_cases] at h
        obtain ⟨h1, h2⟩ := h
        rcases (near_iff hn (grow_lt hDl ha i) x).1 h1 with h1 | ⟨j, hj, hjx⟩
        · exact ih x h1
        · rcases h2 with h2 | rfl
          · right
            refine ⟨h2, ?_⟩
            rcases ih j hj with rfl | ⟨hjS, h⟩
            · exact .edge hjx
            · exact .step h hjS hjx
          · exact .inl rfl
    exact go n x
  · have hP := (grow_bits (R := R) hD n).1
    have hfix := part_fix (R := R) hn hDl ha hD
    have hPl : part n R (S ||| 2 ^ a) a < 2 ^ n := grow_lt hDl ha n
    have cl : ∀ x y, (part n R (S ||| 2 ^ a) a).testBit x = true → (R x).testBit y = true → S.testBit y = true → (part n R (S ||| 2 ^ a) a).testBit y = true := by
      intro x y hx hxy hy
      rw [← hfix, Nat.testBit_and, (near_iff hn hPl y).2 (.inr ⟨x, hx, hxy⟩), or_bit_cases.2 (.inl hy)]
      rfl
    rintro (rfl | ⟨hx, h⟩)
    · exact hP
    · have key : ∀ y, Lk R S a y → S.testBit y = true → (part n R (S ||| 2 ^ a) a).testBit y = true := by
        intro y h
        induction h with
        | edge e => exact fun hy => cl a _ hP e hy
        | step _ hx' e ih => exact fun hy => cl _ _ (ih hx') e hy
      exact key x h hx
/-- Whom a meets behind S. -/
theorem beh_iff (hV : V n R) {S a : Nat} (hS : S < 2 ^ n) (ha : a < n) (b : Nat) : (beh n R S a).testBit b = true ↔ Lk R S a b ∧ S.testBit b = false ∧ b ≠ a := by
  have hn := hV.le
  unfold beh
  rw [sd_bit, sd_bit, bit_eq, Bool.and_eq_true, Bool.and_eq_true, Bool.not_eq_true', Bool.not_eq_true', decide_eq_false_iff_not, near_iff hn (part_lt hS ha)]
  constructor
  · rintro ⟨⟨h, hb⟩, hne⟩
    refine ⟨?_, hb, fun e => hne e.symm⟩
    rcases h with h | ⟨j, hj, hjb⟩
    · rcases (part_iff hV hS ha b).1 h with rfl | ⟨h, _⟩
      · exact absurd rfl hne
      · rw [hb] at h; cases h
    · rcases (part_iff hV hS ha j).1 hj with rfl | ⟨hjS, h⟩
      · exact .edge hjb
      · exact .step h hjS hjb
  · rintro ⟨h, hb, hne⟩
    refine ⟨⟨.inr ?_, hb⟩, fun e => hne e.symm⟩
    cases h with
    | edge e => exact ⟨a, (part_iff hV hS ha a).2 (.inl rfl), e⟩
    | step h hx e => exact ⟨_, (part_iff hV hS ha _).2 (.inr ⟨hx, h⟩), e⟩
/-- One vertex more is eliminated. -/
theorem beh_more (hV : V n R) {S v a b : Nat} (hS : S < 2 ^ n) (hv : v < n) (ha : a < n) (hvS : S.testBit v = false) (haS : S.testBit a = false) (hbS : S.testBit b = false) (hav : a ≠ v) (hbv : b ≠ v) (hab : b ≠ a) :
    (beh n R (S ||| 2 ^ v) a).testBit b = ((beh n R S a).testBit b || ((beh n R S v).testBit a && (beh n R S v).testBit b)) := by
  rw [Bool.eq_iff_iff, Bool.or_eq_true, Bool.and_eq_true, beh_iff hV (or_bit_lt hS hv) ha, beh_iff hV hS ha, beh_iff hV hS hv, beh_iff hV hS hv, Lk.more]
  have hb' : (S ||| 2 ^ v).testBit b = false := by
    cases h : (S ||| 2 ^ v).testBit b with
    | false => rfl
    | true => rcases or_bit_cases.1 h with h | h
              · rw [hbS] at h; cases h
              · exact absurd h hbv
  constructor
  · rintro ⟨h | ⟨h1, h2⟩, _, _⟩
    · exact .inl ⟨h, hbS, hab⟩
    · exact .inr ⟨⟨h1.symm hV, haS, hav⟩, h2, hbS, hbv⟩
  · rintro (⟨h, _, _⟩ | ⟨⟨h1, _, _⟩, h2, _, _⟩)
    · exact ⟨.inl h, hb', hab⟩
    · exact ⟨.inr ⟨h1.symm hV, h2⟩, hb', hab⟩
theorem beh_none (hV : V n R) {a : Nat} (ha : a < n) (b : Nat) (hab : b ≠ a) : (beh n R 0 a).testBit b = (R a).testBit b := by
  rw [Bool.eq_iff_iff, beh_iff hV (Nat.two_pow_pos n) ha]
  constructor
  · rintro ⟨h, _, _⟩
    cases h with
    | edge e => exact e
    | step _ hx _ => simp at hx
  · intro h
    exact ⟨.edge h, by simp, hab⟩
end

/-! ### the program's rows -/
theorem rd_rows' {n : Nat} (Q : Nat → Nat) {v : Nat} (h : v < n) : rd (rows n Q) (v : Int) = (Q v : Int) := by
  rw [rd_nat]
  simp [rows, List.getD_eq_getElem?_getD, h]
theorem rows_set {n : Nat} (Q : Nat → Nat) {v : Nat} (x : Nat) (h : v < n) : (rows n Q).set v (x : Int) = rows n (fun u => if u = v then x else Q u) := by
  apply List.ext_getElem
  · simp [rows]
  · intro i h1 h2
    have hi : i < n := by simpa [rows] using h2
    rw [List.getElem_set]
    by_cases e : v = i
    · subst e
      simp [rows]
    · rw [if_neg e]
      simp only [rows, List.getElem_map, List.getElem_range]
      rw [if_neg (fun h => e h.symm)]
section
variable {n : Nat} {R : Nat → Nat} {t : List Nat}
/-- The rows after v with the neighbors A has been taken out, among those of a list. -/
def fillIn (Q : Nat → Nat) (A : Nat) (m : List Nat) (w : Nat) : Nat := if w ∈ m then Q w ||| sd A (2 ^ w) else Q w
theorem fillIn_lt {Q : Nat → Nat} {A : Nat} (m : List Nat) (hQ : ∀ w, w < n → Q w < 2 ^ n) (hA : A < 2 ^ n) {w : Nat} (hw : w < n) : fillIn Q A m w < 2 ^ n := by
  unfold fillIn
  split
  · exact or_lt (hQ w hw) (sd_lt _ hA)
  · exact hQ w hw
theorem fillIn_snoc (Q : Nat → Nat) (A : Nat) (m : List Nat) (v : Nat) : (fun u => if u = v then fillIn Q A m v ||| sd A (2 ^ v) else fillIn Q A m u) = fillIn Q A (m ++ [v]) := by
  funext u
  unfold fillIn
  simp only [List.mem_append, List.mem_singleton]
  by_cases e : u = v
  · subst e
    rw [if_pos (Or.inr rfl : u ∈ m ∨ u = u), if_pos (rfl : u = u)]
    by_cases h : u ∈ m
    · rw [if_pos h, Nat.or_assoc, Nat.or_self]
    · rw [if_neg h]
  · rw [if_neg e]
    by_cases h : u ∈ m
    · rw [if_pos h, if_pos (Or.inl h : u ∈ m ∨ u = v)]
    · rw [if_neg h, if_neg (fun h' : u ∈ m ∨ u = v => h'.elim h e)]
/-- What the rows tell when S is eliminated. -/
structure Fill (n : Nat) (R : Nat → Nat) (S : Nat) (Q : Nat → Nat) : Prop where
  lt : ∀ w, w < n → Q w < 2 ^ n
  eq : ∀ a b, a < n → S.testBit a = false → S.testBit b = false → b ≠ a → (Q a).testBit b = (beh n R S a).testBit b
theorem Fill.start (hV : V n R) : Fill n R 0 R := ⟨hV.lt, fun a b ha _ _ hab => (beh_none hV ha b hab).symm⟩
theorem Fill.near (hV : V n R) {S v : Nat} {Q : Nat → Nat} (hF : Fill n R S Q) (hS : S < 2 ^ n) (hv : v < n) (hvS : S.testBit v = false) : sd (Q v &&& sd (2 ^ n - 1) S) (2 ^ v) = beh n R S v := by
  apply set_ext
  intro i
  have hl := lt_iff_bits.1 (beh_lt hV hS hv)
  rw [sd_bit, Nat.testBit_and, sd_bit, all_bit, bit_eq]
  by_cases hi : i < n
  · rw [decide_eq_true hi]
    cases hb : S.testBit i with
    | true =>
      cases h : (beh n R S v).testBit i with
      | false => simp
      | true =>
        have := ((beh_iff hV hS hv i).1 h).2.1
        rw [hb] at this; cases this
    | false =>
      by_cases e : i = v
      · subst e
        cases h : (beh n R S i).testBit i with
        | false => simp
        | true => exact absurd rfl ((beh_iff hV hS hv i).1 h).2.2
      · rw [hF.eq v i hv hvS hb e, decide_eq_false (fun h => e h.symm)]
        simp
  · rw [decide_eq_false hi, hl i (by omega)]
    simp
theorem Fill.next (hV : V n R) {S v : Nat} {Q : Nat → Nat} (hF : Fill n R S Q) (hS : S < 2 ^ n) (hv : v < n) (hvS : S.testBit v = false) : Fill n R (S ||| 2 ^ v) (fillIn Q (beh n R S v) (bl (beh n R S v))) := by
  have hA := beh_lt hV hS hv
  refine ⟨fun w hw => fillIn_lt _ hF.lt hA hw, ?_⟩
  intro a b ha haS hbS hab
  have hn := hV.le
  have fa : S.testBit a = false ∧ a ≠ v := by
    constructor
    · cases h : S.testBit a with
      | false => rfl
      | true => rw [or_bit_cases.2 (.inl h)] at haS; cases haS
    · intro e; rw [or_bit_cases.2 (.inr e)] at haS; cases haS
  have fb : S.testBit b = false ∧ b ≠ v := by
    constructor
    · cases h : S.testBit b with
      | false => rfl
      | true => rw [or_bit_cases.2 (.inl h)] at hbS; cases hbS
    · intro e; rw [or_bit_cases.2 (.inr e)] at hbS; cases hbS
  rw [beh_more hV hS hv ha hvS fa.1 fb.1 fa.2 fb.2 hab]
  unfold fillIn
  cases h : (beh n R S v).testBit a with
  | true =>
    rw [if_pos (mem_bl (by omega) h), Nat.testBit_or, sd_bit, bit_eq, hF.eq a b ha fa.1 fb.1 hab, decide_eq_false (fun e => hab e.symm)]
    simp
  | false =>
    rw [if_neg (fun hm => by rw [(bl_mem hm).2] at h; cases h), hF.eq a b ha fa.1 fb.1 hab]
    simp
theorem left_next {S v : Nat} : sd (sd (2 ^ n - 1) S) (2 ^ v) = sd (2 ^ n - 1) (S ||| 2 ^ v) := by
  apply set_ext
  intro i
  rw [sd_bit, sd_bit, sd_bit, Nat.testBit_or]
  cases (2 ^ n - 1).testBit i <;> cases S.testBit i <;> cases (2 ^ v).testBit i <;> rfl
theorem elim_loop (hV : V n R) (ht : ∀ v ∈ t, v < n) (hl : t.length = n) (hf : fresh 0 t = true) :
    Ev (fun k => impl_Graph_eliminated.l0 k (rows n R) ((2 ^ n - 1 : Nat) : Int) ([] : List Int) (ints t) (t.length : Int) 0) (ints (bagL n R 0 t)) := by
  have hn := hV.le
  have e1 : sd (2 ^ n - 1) (orr 0 (t.take 0)) = 2 ^ n - 1 := by simp [orr, sd]
  suffices h : Ev (fun k => impl_Graph_eliminated.l0 k (rows n R) ((sd (2 ^ n - 1) (orr 0 (t.take 0)) : Nat) : Int) (ints (bagL n R 0 (t.take 0))) (ints t) (t.length : Int) ((0 : Nat) : Int)) (ints (bagL n R 0 t)) by
    rw [e1] at h
    exact h
  refine up_ev' (fun k i x => impl_Graph_eliminated.l0 k x ((sd (2 ^ n - 1) (orr 0 (t.take i)) : Nat) : Int) (ints (bagL n R 0 (t.take i))) (ints t) (t.length : Int) (i : Int)) t.length (fun i x => ∃ Q, x = rows n Q ∧ Fill n R (orr 0 (t.take i)) Q) _ ?_ ?_ 0 _ (Nat.zero_le _) ⟨R, rfl, Fill.start hV⟩
  · rintro i _ hi ⟨Q, rfl, hF⟩ ih
    have hv := ht _ (getD_mem hi)
    have hS : orr 0 (t.take i) < 2 ^ n := orr_lt _ 0 (Nat.two_pow_pos n) (fun v h => ht v (List.mem_of_mem_take h))
    have hvS := fresh_at hf hi
    have hnear := hF.near hV hS hv hvS
    have hnext := hF.next hV hS hv hvS
    have hA := beh_lt hV hS hv
    have hbag : ∀ j, j = i + 1 → ints (bagL n R 0 (t.take j)) = ints (bagL n R 0 (t.take i)) ++ [((beh n R (orr 0 (t.take i)) (t.getD i 0) ||| 2 ^ (t.getD i 0) : Nat) : Int)] ∧ orr 0 (t.take j) = orr 0 (t.take i) ||| 2 ^ (t.getD i 0) := by
      rintro j rfl
      rw [take_snoc t hi, bagL_snoc, orr_snoc, ints_app]
      exact ⟨rfl, rfl⟩
    obtain ⟨hb1, hb2⟩ := hbag (i + 1) rfl
    have hlen : (ints (bagL n R 0 (t.take i))).length < 17592186044416 := by rw [ints_len, bagL_len, List.length_take]; omega
    have hnx := fun x hx => ih x hx
    rw [hb2, ← left_next] at hnx
    rw [hb1] at hnx
    generalize hSS : orr 0 (t.take i) = S at *
    generalize hvv : t.getD i 0 = v at *
    generalize hAA : beh n R S v = A at *
    have hbl : ∀ w ∈ bl A, w < n := by
      intro w hw
      apply Classical.byContradiction
      intro hc
      have hw := (bl_mem hw).2
      rw [lt_iff_bits.1 hA w (by omega)] at hw
      cases hw
    have hin : Ev (fun k => impl_Graph_eliminated.l1 k (rows n (fillIn Q A ((bl A).take 0))) ((sd (sd (2 ^ n - 1) S) (2 ^ v) : Nat) : Int) (ints (bagL n R 0 (t.take i)) ++ [((A ||| 2 ^ v : Nat) : Int)]) (A : Int) (ints t) (t.length : Int) (i : Int) (ints (bl A)) ((bl A).length : Int) ((0 : Nat) : Int)) (ints (bagL n R 0 t)) := by
      refine upto_ev (fun k j => impl_Graph_eliminated.l1 k (rows n (fillIn Q A ((bl A).take j))) ((sd (sd (2 ^ n - 1) S) (2 ^ v) : Nat) : Int) (ints (bagL n R 0 (t.take i)) ++ [((A ||| 2 ^ v : Nat) : Int)]) (A : Int) (ints t) (t.length : Int) (i : Int) (ints (bl A)) ((bl A).length : Int) (j : Int)) (bl A).length (fun _ => True) _ ?_ ?_ 0 (Nat.zero_le _) trivial
      · intro j hj _ ih2
        have hw := hbl _ (getD_mem hj)
        have hq := fillIn_lt ((bl A).take j) hF.lt hA hw
        refine Ev.late_step 0 (fun k _ => ?_) (ih2 trivial)
        have hlb := bl_len A
        simp only [impl_Graph_eliminated.l1]
        rw [if_pos (by omega), if_pos (by omega), if_pos (by rw [ints_len]; omega), rd_ints, if_pos (by omega), if_pos (by rw [rows_len]; omega), impl_bit_f (by omega), Option.bind_some, Int.toNat_natCast, rd_rows' _ hw, andNot_nat (lt62 hn hA) (lt62 hn (bit_lt hw)), or_nat (lt62 hn hq) (lt62 hn (sd_lt _ hA)), rows_set _ _ hw, fillIn_snoc, ← take_snoc _ hj, wrap_succ (by omega)]
      · intro _
        rw [List.take_length]
        refine Ev.late_step 0 (fun k _ => ?_) (hnx _ ⟨_, rfl, hnext⟩)
        simp only [impl_Graph_eliminated.l1]
        rw [if_neg (by omega), wrap_succ (by omega)]
    obtain ⟨K, h⟩ := listSet_imp (lt_256 hn hA)
    refine Ev.late_step K (fun k hk => ?_) hin
    have e := h k hk
    simp only at e
    simp only [impl_Graph_eliminated.l0]
    rw [if_pos (by omega), if_pos (by omega), if_pos (by rw [ints_len]; omega), rd_ints, hvv, if_pos (by omega), if_pos (by rw [rows_len]; omega), impl_bit_f (by omega), Option.bind_some, Option.bind_some, if_pos hlen, Option.bind_some, rd_rows' _ hv, and_nat (lt62 hn (hF.lt v hv)) (lt62 hn (sd_lt _ (all_lt n))), andNot_nat (lt62 hn (and_lt _ (hF.lt v hv))) (lt62 hn (bit_lt hv)), hnear, e, Option.bind_some, andNot_nat (lt62 hn (sd_lt _ (all_lt n))) (lt62 hn (bit_lt hv)), or_nat (lt62 hn hA) (lt62 hn (bit_lt hv)), ints_len]
    have e0 : rows n (fillIn Q A ((bl A).take 0)) = rows n Q := by
      congr 1
    rw [e0]
    rfl
  · rintro x _
    refine Ev.one fun k => ?_
    simp only [impl_Graph_eliminated.l0]
    rw [if_neg (by omega), List.take_length]
end
end Go.Proofs.Ytakgeblhdckccaa.P
