/- Numbers and lists as text: the reference's digits are the library's. -/
import Derived.Test.YtlfjmklhifjalaaDoorG0
import Derived.Lib.ItoaNum
import Derived.Lib.Join
import Derived.Laws.Concat
import Derived.Test.YtlfjmklhifjalaaDoorQj1
namespace Go.Proofs.YtlfjmklhifjalaaDoor.P
open Go.RowKit Go.Proofs.YtlfjmklhifjalaaDoorW.PrintWords Go.Proofs.YtlfjmklhifjalaaDoorW.PrintLast Go.Proofs.YtlfjmklhifjalaaDoorW.PrintMore Go.Proofs.YtlfjmklhifjalaaDoor.Q
set_option linter.unusedVariables false
/-- The text of these bytes. -/
def B (l : List UInt8) : ByteArray := ⟨l.toArray⟩
theorem B_app (x y : List UInt8) : B x ++ B y = B (x ++ y) := ByteArray.mk_append_mk x y
theorem B_size (x : List UInt8) : (B x).size = x.length := by simp [B, ByteArray.size]
theorem B_data (x : List UInt8) : (B x).data.toList = x := by simp [B]
theorem B_dig (x : Int) (h0 : 0 ≤ x) (h1 : x < 256) : strOfNums [x] = B [UInt8.ofNat x.toNat] := by
  obtain ⟨n, rfl⟩ : ∃ n : Nat, x = (n : Int) := ⟨x.toNat, by omega⟩
  rw [Int.toNat_natCast]
  have hn : n < 256 := by omega
  clear h0 h1
  revert hn
  revert n
  decide +kernel
theorem nDigits_le (u : Nat) (h : u ≤ 9223372036854775808) : Lib.nDigits u ≤ 20 := by
  by_cases h0 : 20 < Lib.nDigits u
  · exfalso
    have key : ∀ (k u : Nat), k + 1 < Lib.nDigits u → 10 ^ (k + 1) ≤ u := by
      intro k
      induction k with
      | zero =>
        intro u hk
        by_cases hu : u < 10
        · rw [Lib.nDigits_small hu] at hk; omega
        · omega
      | succ k ih =>
        intro u hk
        by_cases hu : u < 10
        · rw [Lib.nDigits_small hu] at hk; omega
        · rw [Lib.nDigits_big hu] at hk
          have := ih (u / 10) (by omega)
          rw [Nat.pow_succ]
          omega
    have := key 19 u (by omega)
    omega
  · omega
theorem itoa_len (n : Int) (h0 : -9223372036854775808 ≤ n) (h1 : n ≤ 9223372036854775807) : (Lib.itoa n).length ≤ 21 := by
  unfold Lib.itoa
  split
  · rw [List.length_cons, Lib.decDigits_length]
    have := nDigits_le n.natAbs (by omega)
    omega
  · rw [Lib.decDigits_length]
    have := nDigits_le n.toNat (by omega)
    omega
theorem dec_small {u : Nat} (h : u < 10) : Lib.decDigits u = [UInt8.ofNat (48 + u)] := by rw [Lib.decDigits, dif_pos h]
theorem dec_big {u : Nat} (h : ¬ u < 10) : Lib.decDigits u = Lib.decDigits (u / 10) ++ [UInt8.ofNat (48 + u % 10)] := by rw [Lib.decDigits, dif_neg h]
theorem digits_ev : ∀ (d u : Nat), u ≤ d → u ≤ 9223372036854775807 → ∀ acc : List UInt8, acc.length + Lib.nDigits u ≤ 100 → Ev (fun k => spec_FormatInt.l0 k (u : Int) (B acc)) (B (Lib.decDigits u ++ acc)) := by
  intro d
  induction d with
  | zero =>
    intro u hd hu acc ha
    obtain rfl : u = 0 := by omega
    refine Ev.one fun k => ?_
    simp only [spec_FormatInt.l0]
    rw [if_neg (by omega), Option.bind_some, P.wrap_small (by omega) (by omega), B_dig _ (by omega) (by omega), B_size, B_size, if_pos (by simp; omega), B_app, dec_small (by omega)]
    rfl
  | succ d ih =>
    intro u hd hu acc ha
    by_cases h9 : u < 10
    · refine Ev.one fun k => ?_
      simp only [spec_FormatInt.l0]
      rw [if_neg (by omega), Option.bind_some, P.wrap_small (by omega) (by omega), B_dig _ (by omega) (by omega), B_size, B_size, if_pos (by simp; omega), B_app, dec_small h9]
      rw [show ((48 + (u : Int)) % 256).toNat = 48 + u by omega]
    · rw [Lib.nDigits_big h9] at ha
      have ht : Int.tdiv (u : Int) 10 = ((u / 10 : Nat) : Int) := rfl
      have hm : Int.tmod (u : Int) 10 = ((u % 10 : Nat) : Int) := rfl
      have hm9 : u % 10 < 10 := Nat.mod_lt _ (by omega)
      have h := ih (u / 10) (by omega) (by omega) ([UInt8.ofNat (48 + u % 10)] ++ acc) (by simp; omega)
      refine Ev.late_step 0 (fun k _ => ?_) (r := B (Lib.decDigits u ++ acc)) (f := fun k => spec_FormatInt.l0 k ((u / 10 : Nat) : Int) (B ([UInt8.ofNat (48 + u % 10)] ++ acc))) ?_
      · simp only [spec_FormatInt.l0]
        rw [if_pos (by omega), Option.bind_some, hm, ht, P.wrap_small (by omega) (by omega), B_dig _ (by omega) (by omega), B_size, B_size, if_pos (by simp; omega), B_app, P.wrap_small (by omega) (by omega)]
        rw [show ((48 + ((u % 10 : Nat) : Int)) % 256).toNat = 48 + u % 10 by omega]
      · rw [dec_big h9, List.append_assoc]
        exact h
theorem neg_ev : ∀ (d m : Nat), m ≤ d → 1 ≤ m → m ≤ 9223372036854775808 → Ev (fun k => spec_FormatInt.f k (-(m : Int))) (B (45 :: Lib.decDigits m)) := by
  intro d
  induction d with
  | zero => intro m h1 h2; omega
  | succ d ih =>
    intro m hd h1 hm
    have ht : Int.tdiv (-(m : Int)) 10 = -((m / 10 : Nat) : Int) := by rw [Int.neg_tdiv]; rfl
    have hr : Int.tmod (-(m : Int)) 10 = -((m % 10 : Nat) : Int) := by rw [Int.neg_tmod]; rfl
    have hm9 : m % 10 < 10 := Nat.mod_lt _ (by omega)
    by_cases h9 : m < 10
    · refine Ev.one fun k => ?_
      simp only [spec_FormatInt.f]
      rw [if_pos (by omega), ht, P.wrap_small (by omega) (by omega), if_pos (by omega), Option.bind_some, P.wrap_small (by omega) (by omega), B_dig _ (by omega) (by omega), B_size, if_pos (by simp)]
      rw [show (⟨#[45]⟩ : ByteArray) = B [45] from rfl, B_app, dec_small h9, show ((48 - -(m : Int)) % 256).toNat = 48 + m by omega]
      rfl
    · obtain ⟨K, h⟩ := ih (m / 10) (by omega) (by omega) (by omega)
      refine Ev.late K (fun k hk => ?_)
      have e := h k hk
      simp only at e
      simp only [spec_FormatInt.f]
      have hl := nDigits_le (m / 10) (by omega)
      rw [if_pos (by omega), ht, P.wrap_small (by omega) (by omega), if_neg (by omega), e, Option.bind_some, hr, Option.bind_some, P.wrap_small (by omega) (by omega), B_dig _ (by omega) (by omega), B_size, B_size, if_pos (by simp [Lib.decDigits_length]; omega), B_app, dec_big h9]
      rw [show ((48 - -((m % 10 : Nat) : Int)) % 256).toNat = 48 + m % 10 by omega]
      rfl
theorem formatInt_spec (n : Int) (h0 : -9223372036854775808 ≤ n) (h1 : n ≤ 9223372036854775807) : Ev (fun k => spec_FormatInt.f k n) (B (Lib.itoa n)) := by
  unfold Lib.itoa
  by_cases hn : n < 0
  · rw [if_pos hn]
    obtain ⟨m, rfl⟩ : ∃ m : Nat, n = -(m : Int) := ⟨n.natAbs, by omega⟩
    rw [show (-(m : Int)).natAbs = m by omega]
    exact neg_ev m m (Nat.le_refl _) (by omega) (by omega)
  · rw [if_neg hn]
    obtain ⟨u, rfl⟩ : ∃ u : Nat, n = (u : Int) := ⟨n.toNat, by omega⟩
    rw [Int.toNat_natCast]
    have hl := nDigits_le u (by omega)
    have h := digits_ev u u (Nat.le_refl _) (by omega) [] (by simp; omega)
    rw [List.append_nil] at h
    refine Ev.late_step 0 (fun k _ => ?_) h
    simp only [spec_FormatInt.f]
    rw [if_neg hn]
    rfl
theorem formatInt_impl (n : Int) (h0 : -9223372036854775808 ≤ n) (h1 : n ≤ 9223372036854775807) : impl_FormatInt.f n = some (B (Lib.itoa n)) := by
  unfold impl_FormatInt.f
  show Option.bind (if -9223372036854775808 ≤ n ∧ n ≤ 9223372036854775807 then some (⟨(Lib.itoa n).toArray⟩ : ByteArray) else none) (fun t => some t) = _
  rw [if_pos ⟨h0, h1⟩, Option.bind_some]
  rfl
/-! ### lists of texts -/
theorem join_len (xs : List (List UInt8)) (h : ∀ x ∈ xs, x.length ≤ 21) (sep : List UInt8) (hs : sep.length ≤ 1) : (Lib.join xs sep).length ≤ 22 * xs.length := by
  have hlens : ∀ r : List (List UInt8), (∀ x ∈ r, x.length ≤ 21) → Lib.lens r ≤ 21 * r.length := by
    intro r
    induction r with
    | nil => intro _; simp [Lib.lens]
    | cons y r ih =>
      intro h
      have h1 := h y (by simp)
      have h2 := ih (fun x hx => h x (by simp [hx]))
      simp only [Lib.lens, List.map_cons, List.sum_cons, List.length_cons] at h2 ⊢
      omega
  cases xs with
  | nil => simp [Lib.join_nil]
  | cons x r =>
    rw [Lib.join_cons, List.length_append, Lib.joinTail_length]
    have h1 := h x (by simp)
    have h2 := hlens r (fun y hy => h y (by simp [hy]))
    have h3 : sep.length * r.length ≤ 1 * r.length := Nat.mul_le_mul_right _ hs
    rw [List.length_cons]
    omega
theorem join_snoc (xs : List (List UInt8)) (y sep : List UInt8) (h : xs ≠ []) : Lib.join (xs ++ [y]) sep = Lib.join xs sep ++ sep ++ y := by
  cases xs with
  | nil => exact absurd rfl h
  | cons x r =>
    rw [List.cons_append, Lib.join_cons, Lib.join_cons]
    simp [Lib.joinTail, List.append_assoc]
theorem rdB (xs : List (List UInt8)) (i : Nat) (h : i < xs.length) : rdOf ByteArray.empty (xs.map B) (i : Int) = B xs[i] := by
  simp [rdOf, List.getD_eq_getElem?_getD, h]
theorem specJoin_ev (xs : List (List UInt8)) (hx : ∀ x ∈ xs, x.length ≤ 21) (hl : xs.length ≤ 1000000) : Ev (fun k => spec_Join.f k (xs.map B) (B [44])) (B (Lib.join xs [44])) := by
  have hL : Ev (fun k => spec_Join.l0 k (B [44]) (B (Lib.join (xs.take 0) [44])) (xs.map B) (((xs.map B).length : Nat) : Int) ((0 : Nat) : Int)) (B (Lib.join xs [44])) := by
    refine upto_ev (fun k i => spec_Join.l0 k (B [44]) (B (Lib.join (xs.take i) [44])) (xs.map B) (((xs.map B).length : Nat) : Int) (i : Int)) xs.length (fun _ => True) _ ?_ ?_ 0 (Nat.zero_le _) trivial
    · intro i hi _ ih
      refine Ev.late_step 0 (fun k _ => ?_) (ih trivial)
      have hj := join_len (xs.take i) (fun x h => hx x (List.mem_of_mem_take h)) [44] (by simp)
      rw [List.length_take] at hj
      have hxi := hx xs[i] (List.getElem_mem hi)
      have e0 : xs.take (i + 1) = xs.take i ++ [xs[i]] := by simp
      simp only [spec_Join.l0]
      rw [List.length_map, if_pos (by omega), if_pos (by omega), if_pos (by omega), rdB xs i hi]
      by_cases h0 : i = 0
      · subst h0
        rw [if_neg (by omega), B_size, B_size, if_pos (by omega), B_app, wrap_succ (by omega), e0]
        simp [Lib.join_nil, Lib.join_one]
      · have hne : xs.take i ≠ [] := by
          intro h
          have := congrArg List.length h
          rw [List.length_take, List.length_nil] at this
          omega
        rw [if_pos (by omega), B_size, B_size, if_pos (by simp; omega), B_app, B_size, B_size, if_pos (by simp; omega), B_app, wrap_succ (by omega), e0, join_snoc _ _ _ hne]
    · intro _
      refine Ev.one fun k => ?_
      simp only [spec_Join.l0]
      rw [List.length_map, if_neg (by omega), List.take_length]
  exact hL
theorem implJoin_f (xs : List (List UInt8)) (hx : ∀ x ∈ xs, x.length ≤ 21) (hl : xs.length ≤ 1000000) : strings_Join.f (xs.map B) (B [44]) = some (B (Lib.join xs [44])) := by
  have e : strings_Join.l (xs.map B) (B [44]) = Lib.join xs [44] := by
    unfold strings_Join.l
    rw [B_data, List.map_map]
    congr 1
    conv => rhs; rw [← List.map_id xs]
    apply List.map_congr_left
    intro x _
    exact B_data x
  have hj := join_len xs hx [44] (by simp)
  unfold strings_Join.f
  rw [e, if_pos ⟨by rw [List.length_map]; omega, by omega⟩]
  rfl
/-! ### the list's text -/
def txt (l : List Int) : List (List UInt8) := l.map Lib.itoa
theorem txt_len {l : List Int} (h : ∀ x ∈ l, -9223372036854775808 ≤ x ∧ x ≤ 9223372036854775807) : ∀ x ∈ txt l, x.length ≤ 21 := by
  intro x hx
  obtain ⟨n, hn, rfl⟩ := List.mem_map.1 hx
  exact itoa_len n (h n hn).1 (h n hn).2
theorem formatList_both (l : List Int) (hl : l.length ≤ 1000000) (h : ∀ x ∈ l, -9223372036854775808 ≤ x ∧ x ≤ 9223372036854775807) : ∃ r, Ev (fun k => impl_FormatList.f k l) r ∧ Ev (fun k => spec_FormatList.f k l) r := by
  have hx := txt_len h
  have hlen : (txt l).length = l.length := by simp [txt]
  have hgo : ∀ i, i < l.length → rd l (i : Int) = l.getD i 0 ∧ (-9223372036854775808 ≤ l.getD i 0 ∧ l.getD i 0 ≤ 9223372036854775807) ∧ (txt (l.take i)).map B ++ [B (Lib.itoa (l.getD i 0))] = (txt (l.take (i + 1))).map B := by
    intro i hi
    have e : l.getD i 0 = l[i] := by simp [List.getD_eq_getElem?_getD, hi]
    refine ⟨rd_nat l i, by rw [e]; exact h _ (List.getElem_mem hi), ?_⟩
    rw [e, List.take_succ_eq_append_getElem hi]
    unfold txt
    rw [List.map_append, List.map_append]
    rfl
  by_cases hn : l = []
  · subst hn
    refine ⟨⟨#[45]⟩, Ev.some fun k => rfl, Ev.one fun k => ?_⟩
    simp [spec_FormatList.f, spec_FormatList.l0]
  · have hpos : 0 < l.length := List.length_pos_iff.2 hn
    refine ⟨B (Lib.join (txt l) [44]), ?_, ?_⟩
    · have hL : Ev (fun k => impl_FormatList.l0 k ((txt (l.take 0)).map B) l (l.length : Int) ((0 : Nat) : Int)) (B (Lib.join (txt l) [44])) := by
        refine upto_ev (fun k i => impl_FormatList.l0 k ((txt (l.take i)).map B) l (l.length : Int) (i : Int)) l.length (fun _ => True) _ ?_ ?_ 0 (Nat.zero_le _) trivial
        · intro i hi _ ih
          obtain ⟨e1, ⟨e2, e3⟩, e4⟩ := hgo i hi
          refine Ev.late_step 0 (fun k _ => ?_) (ih trivial)
          simp only [impl_FormatList.l0]
          rw [if_pos (by omega), if_pos (by omega), if_pos (by omega), e1, formatInt_impl _ e2 e3, Option.bind_some, if_pos (by simp [txt]; omega), wrap_succ (by omega), e4]
        · intro _
          refine Ev.one fun k => ?_
          simp only [impl_FormatList.l0]
          rw [if_neg (by omega), List.take_length, show (⟨#[44]⟩ : ByteArray) = B [44] from rfl, implJoin_f _ hx (by omega), Option.bind_some]
      refine Ev.late_eq 0 (fun k _ => ?_) hL
      unfold impl_FormatList.f
      rw [if_neg (by omega)]
      rfl
    · have hL : Ev (fun k => spec_FormatList.l0 k ((txt (l.take 0)).map B) l (l.length : Int) ((0 : Nat) : Int)) (B (Lib.join (txt l) [44])) := by
        refine upto_ev (fun k i => spec_FormatList.l0 k ((txt (l.take i)).map B) l (l.length : Int) (i : Int)) l.length (fun _ => True) _ ?_ ?_ 0 (Nat.zero_le _) trivial
        · intro i hi _ ih
          obtain ⟨e1, ⟨e2, e3⟩, e4⟩ := hgo i hi
          obtain ⟨K, h⟩ := formatInt_spec _ e2 e3
          refine Ev.late_step K (fun k hk => ?_) (ih trivial)
          have e := h k hk
          simp only at e
          simp only [spec_FormatList.l0]
          rw [if_pos (by omega), if_pos (by omega), if_pos (by omega), e1, e, Option.bind_some, if_pos (by simp [txt]; omega), wrap_succ (by omega), e4]
        · intro _
          obtain ⟨K, h⟩ := specJoin_ev (txt l) hx (by omega)
          refine Ev.late K (fun k hk => ?_)
          have e := h k hk
          simp only at e
          simp only [spec_FormatList.l0]
          rw [if_neg (by omega), List.take_length, if_neg (by rw [List.length_map, hlen]; omega), show (⟨#[44]⟩ : ByteArray) = B [44] from rfl, e, Option.bind_some]
      exact hL
end Go.Proofs.YtlfjmklhifjalaaDoor.P
