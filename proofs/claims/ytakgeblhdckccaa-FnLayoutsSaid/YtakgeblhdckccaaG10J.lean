/- Orders of all vertices, as lists: each vertex once, told by the set that they make up, or one by one. -/
import Derived.Test.YtakgeblhdckccaaGHJ
import Derived.Test.YtakgeblhdckccaaGNJ
namespace Go.Proofs.Ytakgeblhdckccaa.P
open Go.RowKit Go.Proofs.YtakgeblhdckccaaW.PrintWords Go.Proofs.YtakgeblhdckccaaW.PrintLast Go.Proofs.YtakgeblhdckccaaW.PrintMore Go.Proofs.Ytakgeblhdckccaa.Q
set_option linter.unusedVariables false

/-- The set S with the vertices of a list. -/
def orr (S : Nat) : List Nat → Nat
  | [] => S
  | v :: t => orr (S ||| 2 ^ v) t
/-- No vertex of the list is in S, and none occurs twice. -/
def fresh (S : Nat) : List Nat → Bool
  | [] => true
  | v :: t => !S.testBit v && fresh (S ||| 2 ^ v) t
theorem cnt_or_all : ∀ S, S < 256 → ∀ v, v < 8 → cnt (S ||| 2 ^ v) = (if S.testBit v then cnt S else cnt S + 1) := by decide +kernel
theorem cnt_or {n S v : Nat} (hn : n ≤ 8) (hS : S < 2 ^ n) (hv : v < n) : cnt (S ||| 2 ^ v) = (if S.testBit v then cnt S else cnt S + 1) := cnt_or_all S (lt_256 hn hS) v (by omega)
theorem orr_lt {n : Nat} : ∀ (t : List Nat) (S : Nat), S < 2 ^ n → (∀ v ∈ t, v < n) → orr S t < 2 ^ n
  | [], S, hS, _ => hS
  | v :: t, S, hS, h => orr_lt t _ (or_bit_lt hS (h v (by simp))) (fun w hw => h w (by simp [hw]))
theorem orr_cnt {n : Nat} (hn : n ≤ 8) : ∀ (t : List Nat) (S : Nat), S < 2 ^ n → (∀ v ∈ t, v < n) → cnt (orr S t) ≤ cnt S + t.length ∧ (cnt (orr S t) = cnt S + t.length ↔ fresh S t = true)
  | [], S, _, _ => by simp [orr, fresh]
  | v :: t, S, hS, h => by
    have hv := h v (by simp)
    obtain ⟨h1, h2⟩ := orr_cnt hn t (S ||| 2 ^ v) (or_bit_lt hS hv) (fun w hw => h w (by simp [hw]))
    have h3 := cnt_or hn hS hv
    simp only [orr, fresh, List.length_cons]
    cases hb : S.testBit v with
    | true =>
      rw [hb, if_pos rfl] at h3
      refine ⟨by omega, ?_⟩
      constructor
      · intro e; omega
      · intro e; simp at e
    | false =>
      rw [hb, if_neg (by decide)] at h3
      refine ⟨by omega, ?_⟩
      rw [show (!false && fresh (S ||| 2 ^ v) t) = fresh (S ||| 2 ^ v) t from rfl, ← h2]
      omega
theorem cnt_full_all : ∀ n, n < 9 → cnt (2 ^ n - 1) = n := by decide +kernel
theorem cnt_full {n A : Nat} (hn : n ≤ 8) (hA : A < 2 ^ n) : cnt A = n ↔ A = 2 ^ n - 1 := by
  constructor
  · intro h
    apply Classical.byContradiction
    intro hne
    have := cnt_lt (A := A) (B := 2 ^ n - 1) (by have := pow_le_256 hn; omega) (fun i hi => by
      rw [all_bit]
      apply decide_eq_true
      apply Classical.byContradiction
      intro hc
      rw [lt_iff_bits.1 hA i (by omega)] at hi
      exact absurd hi (by decide)) hne
    have := cnt_full_all n (by omega)
    omega
  · rintro rfl
    exact cnt_full_all n (by omega)
/-- A list of n vertices makes up all of them just if none occurs twice. -/
theorem orr_full {n : Nat} (hn : n ≤ 8) {t : List Nat} (ht : ∀ v ∈ t, v < n) (hl : t.length = n) : (orr 0 t = 2 ^ n - 1) ↔ fresh 0 t = true := by
  have h0 : (0 : Nat) < 2 ^ n := Nat.two_pow_pos n
  have hc : cnt 0 = 0 := by decide
  obtain ⟨_, h⟩ := orr_cnt hn t 0 h0 ht
  rw [← h, ← cnt_full hn (orr_lt t 0 h0 ht), hl, hc, Nat.zero_add]
theorem orr_snoc (t : List Nat) : ∀ (S v : Nat), orr S (t ++ [v]) = orr S t ||| 2 ^ v := by
  induction t with
  | nil => intro S v; rfl
  | cons w t ih => intro S v; exact ih _ v
theorem fresh_snoc (t : List Nat) : ∀ (S v : Nat), fresh S (t ++ [v]) = (fresh S t && !(orr S t).testBit v) := by
  induction t with
  | nil => intro S v; simp [fresh, orr]
  | cons w t ih => intro S v; simp only [List.cons_append, fresh, ih, orr, Bool.and_assoc]
theorem take_snoc (t : List Nat) {i : Nat} (hi : i < t.length) : t.take (i + 1) = t.take i ++ [t.getD i 0] := by
  rw [List.take_succ_eq_append_getElem hi]
  simp [List.getD_eq_getElem?_getD, hi]
theorem getD_mem {t : List Nat} {i : Nat} (hi : i < t.length) : t.getD i 0 ∈ t := by
  simp [List.getD_eq_getElem?_getD, hi]
theorem fresh_app (a : List Nat) : ∀ (S : Nat) (b : List Nat), fresh S (a ++ b) = (fresh S a && fresh (orr S a) b) := by
  induction a with
  | nil => intro S b; rfl
  | cons v a ih => intro S b; simp only [List.cons_append, fresh, ih, orr, Bool.and_assoc]
/-- In an order, no vertex is in the set of those before it. -/
theorem fresh_at {t : List Nat} {S i : Nat} (h : fresh S t = true) (hi : i < t.length) : (orr S (t.take i)).testBit (t.getD i 0) = false := by
  have e : t = t.take (i + 1) ++ t.drop (i + 1) := (List.take_append_drop _ _).symm
  rw [e, fresh_app, take_snoc t hi, fresh_snoc, Bool.and_eq_true, Bool.and_eq_true] at h
  simpa using h.1.2
/-- Vertices as natural numbers. -/
theorem ints_of {n : Nat} {o : List Int} (h : o.all (vx (n : Int)) = true) : o = ints (o.map Int.toNat) ∧ ∀ v ∈ o.map Int.toNat, v < n := by
  rw [List.all_eq_true] at h
  constructor
  · unfold ints
    rw [List.map_map]
    conv => lhs; rw [← List.map_id o]
    apply List.map_congr_left
    intro x hx
    have := h x hx
    unfold vx at this
    have := of_decide_eq_true this
    simp only [id_eq, Function.comp_apply]
    omega
  · intro v hv
    obtain ⟨x, hx, rfl⟩ := List.mem_map.1 hv
    have := of_decide_eq_true (h x hx)
    omega
theorem rd_ints (t : List Nat) (i : Nat) : rd (ints t) (i : Int) = ((t.getD i 0 : Nat) : Int) := by
  rw [rd_nat]
  unfold ints
  simp only [List.getD_eq_getElem?_getD, List.getElem?_map]
  cases t[i]? <;> rfl
/-- An order of all vertices of a graph. -/
noncomputable def layB (s : Int) (l o : List Int) : Bool := gB s l && (decide ((o.length : Int) = s) && (o.all (vx s) && fresh 0 (o.map Int.toNat)))
theorem layB_cases {s : Int} {l o : List Int} (h : layB s l o = true) : ∃ n R t, V n R ∧ s = (n : Int) ∧ l = rows n R ∧ gB s l = true ∧ o = ints t ∧ t.length = n ∧ (∀ v ∈ t, v < n) ∧ fresh 0 t = true := by
  unfold layB at h
  rcases gB_cases s l with ⟨hb, _⟩ | ⟨n, R, hV, rfl, rfl, hb⟩
  · rw [hb] at h; simp at h
  · rw [hb, Bool.true_and, Bool.and_eq_true, Bool.and_eq_true] at h
    obtain ⟨h1, h2, h3⟩ := h
    obtain ⟨e1, e2⟩ := ints_of h2
    refine ⟨n, R, o.map Int.toNat, hV, rfl, rfl, hb, e1, ?_, e2, h3⟩
    have := of_decide_eq_true h1
    rw [List.length_map]
    omega
end Go.Proofs.Ytakgeblhdckccaa.P
