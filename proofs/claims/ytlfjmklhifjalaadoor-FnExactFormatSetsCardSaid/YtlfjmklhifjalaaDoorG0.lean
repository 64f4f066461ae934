/- Plain facts: whole numbers that are natural numbers, sets of vertices as numbers, and loops that are told by an invariant and a measure. -/
import Derived.Test.YtlfjmklhifjalaaDoorFvWords
namespace Go.Proofs.YtlfjmklhifjalaaDoor.P
open Go.RowKit Go.Proofs.YtlfjmklhifjalaaDoorW.PrintWords Go.Proofs.YtlfjmklhifjalaaDoorW.PrintLast Go.Proofs.YtlfjmklhifjalaaDoorW.PrintMore
set_option linter.unusedVariables false

/-! ### whole numbers -/
theorem wrap_small {n : Int} (h : -9223372036854775808 ≤ n) (h' : n ≤ 9223372036854775807) : wrap64 n = n := by unfold wrap64; omega
theorem wrap_succ {i : Nat} (h : i < 9223372036854775807) : wrap64 ((i : Int) + 1) = ((i + 1 : Nat) : Int) := by unfold wrap64; omega
theorem wraps62 (n : Int) (h0 : 0 ≤ n) (h1 : n < 2 ^ 62) : IntKind.i64.wrap n = n := by rw [IntKind.wrap_i64]; omega
theorem and_nat {a b : Nat} (ha : a < 2 ^ 62) (hb : b < 2 ^ 62) : Go.bits .and .i64 (a : Int) (b : Int) = ((a &&& b : Nat) : Int) := (bits_nat .i64 62 (by decide) wraps62 a b ha hb).1
theorem or_nat {a b : Nat} (ha : a < 2 ^ 62) (hb : b < 2 ^ 62) : Go.bits .or .i64 (a : Int) (b : Int) = ((a ||| b : Nat) : Int) := (bits_nat .i64 62 (by decide) wraps62 a b ha hb).2
/-- What is in a and not in b. -/
def sd (a b : Nat) : Nat := a ^^^ (a &&& b)
theorem sd_bit (a b i : Nat) : (sd a b).testBit i = (a.testBit i && !b.testBit i) := by
  simp only [sd, Nat.testBit_xor, Nat.testBit_and]
  cases a.testBit i <;> cases b.testBit i <;> rfl
theorem sd_le (a b : Nat) : sd a b ≤ a := by
  have h : sd a b = a &&& sd a b := by
    apply Nat.eq_of_testBit_eq
    intro i
    rw [Nat.testBit_and, sd_bit]
    cases a.testBit i <;> cases b.testBit i <;> rfl
  rw [h]
  exact Nat.and_le_left
theorem andNot_nat {a b : Nat} (ha : a < 2 ^ 62) (hb : b < 2 ^ 62) : Go.bits .andNot .i64 (a : Int) (b : Int) = ((sd a b : Nat) : Int) := by
  have e : (BitVec.ofInt IntKind.i64.bits (a : Int) &&& ~~~BitVec.ofInt IntKind.i64.bits (b : Int)).toNat = sd a b := by
    apply Nat.eq_of_testBit_eq
    intro i
    have h64 : IntKind.i64.bits = 64 := rfl
    have ha' : a % 2 ^ 64 = a := Nat.mod_eq_of_lt (by omega)
    have hb' : b % 2 ^ 64 = b := Nat.mod_eq_of_lt (by omega)
    rw [sd_bit, BitVec.testBit_toNat, BitVec.getLsbD_and, BitVec.getLsbD_not]
    rw [BitVec.ofInt_natCast, BitVec.ofInt_natCast, BitVec.getLsbD_ofNat, BitVec.getLsbD_ofNat, h64]
    by_cases hi : i < 64
    · simp [hi]
    · have : a.testBit i = false := Nat.testBit_lt_two_pow (Nat.lt_of_lt_of_le ha (Nat.pow_le_pow_right (by decide) (by omega)))
      simp [hi, this]
  show IntKind.i64.wrap (((BitVec.ofInt IntKind.i64.bits (a : Int) &&& ~~~BitVec.ofInt IntKind.i64.bits (b : Int)).toNat : Nat) : Int) = _
  rw [e]
  have := sd_le a b
  exact wraps62 _ (by omega) (by omega)
theorem shl1 {v : Nat} (hv : v ≤ 61) : shl .i64 1 (v : Int) = ((2 ^ v : Nat) : Int) := by
  unfold shl
  have h1 : (2 : Nat) ^ v ≤ 2 ^ 61 := Nat.pow_le_pow_right (by decide) hv
  have h64 : IntKind.i64.bits = 64 := rfl
  rw [h64, Int.toNat_natCast, Nat.min_eq_left (by omega), Int.one_mul]
  have e : ((2 : Int) ^ v) = ((2 ^ v : Nat) : Int) := by simp
  rw [e]
  generalize 2 ^ v = p at h1
  exact wraps62 _ (by omega) (by omega)
theorem shr_nat {s v : Nat} (hv : v ≤ 61) : shr .i64 (s : Int) (v : Int) = ((s / 2 ^ v : Nat) : Int) := by
  unfold shr
  have h64 : IntKind.i64.bits = 64 := rfl
  rw [h64, Int.toNat_natCast, Nat.min_eq_left (by omega)]
  simp
theorem rd_nat (l : List Int) (i : Nat) : rd l (i : Int) = l.getD i 0 := by simp [rd]
theorem pow_le_256 {n : Nat} (h : n ≤ 8) : 2 ^ n ≤ 256 := Nat.pow_le_pow_right (by decide) h
theorem lt_256 {n a : Nat} (h : n ≤ 8) (ha : a < 2 ^ n) : a < 256 := Nat.lt_of_lt_of_le ha (pow_le_256 h)

/-! ### sets -/
theorem bit_eq (v i : Nat) : (2 ^ v).testBit i = decide (v = i) := Nat.testBit_two_pow
theorem bit_self (v : Nat) : (2 ^ v).testBit v = true := by simp
theorem all_bit (n i : Nat) : (2 ^ n - 1).testBit i = decide (i < n) := Nat.testBit_two_pow_sub_one n i
theorem lt_iff_bits {n a : Nat} : a < 2 ^ n ↔ ∀ i, n ≤ i → a.testBit i = false := by
  constructor
  · intro h i hi
    exact Nat.testBit_lt_two_pow (Nat.lt_of_lt_of_le h (Nat.pow_le_pow_right (by decide) hi))
  · intro h
    exact Nat.lt_pow_two_of_testBit a h
theorem set_ext {a b : Nat} (h : ∀ i, a.testBit i = b.testBit i) : a = b := Nat.eq_of_testBit_eq h
theorem or_lt {n a b : Nat} (ha : a < 2 ^ n) (hb : b < 2 ^ n) : a ||| b < 2 ^ n := Nat.or_lt_two_pow ha hb
theorem and_lt {n a : Nat} (b : Nat) (ha : a < 2 ^ n) : a &&& b < 2 ^ n := Nat.lt_of_le_of_lt Nat.and_le_left ha
theorem sd_lt {n a : Nat} (b : Nat) (ha : a < 2 ^ n) : sd a b < 2 ^ n := Nat.lt_of_le_of_lt (sd_le a b) ha
theorem bit_lt {n v : Nat} (h : v < n) : 2 ^ v < 2 ^ n := Nat.pow_lt_pow_right (by decide) h
theorem or_bit_lt {n S v : Nat} (hS : S < 2 ^ n) (hv : v < n) : S ||| 2 ^ v < 2 ^ n := or_lt hS (bit_lt hv)
theorem all_lt (n : Nat) : 2 ^ n - 1 < 2 ^ n := by have := Nat.two_pow_pos n; omega

/-! ### loops -/
theorem Ev.some {α : Type} {g : Nat → Option α} {r : α} (h : ∀ k, g k = .some r) : Ev g r := ⟨0, fun k _ => h k⟩
theorem Ev.one {α : Type} {g : Nat → Option α} {r : α} (h : ∀ k, g (k + 1) = .some r) : Ev g r :=
  ⟨1, fun k hk => by obtain ⟨m, rfl⟩ : ∃ m, k = m + 1 := ⟨k - 1, by omega⟩; exact h m⟩
theorem Ev.late {α : Type} {g : Nat → Option α} {r : α} (K : Nat) (h : ∀ k, K ≤ k → g (k + 1) = .some r) : Ev g r :=
  ⟨K + 1, fun k hk => by obtain ⟨m, rfl⟩ : ∃ m, k = m + 1 := ⟨k - 1, by omega⟩; exact h m (by omega)⟩
theorem Ev.late_step {α : Type} {g f : Nat → Option α} {r : α} (K : Nat) (h : ∀ k, K ≤ k → g (k + 1) = f k) (hf : Ev f r) : Ev g r := by
  obtain ⟨K', hf⟩ := hf
  exact ⟨max K K' + 1, fun k hk => by obtain ⟨m, rfl⟩ : ∃ m, k = m + 1 := ⟨k - 1, by omega⟩; rw [h m (by omega)]; exact hf m (by omega)⟩
theorem Ev.late_eq {α : Type} {g f : Nat → Option α} {r : α} (K : Nat) (h : ∀ k, K ≤ k → g k = f k) (hf : Ev f r) : Ev g r := by
  obtain ⟨K', hf⟩ := hf
  exact ⟨max K K', fun k hk => by rw [h k (by omega)]; exact hf k (by omega)⟩
/-- A loop whose state t is told by inv and whose measure m goes down: it answers r. -/
theorem meas_ev {τ β : Type} (L : Nat → τ → Option β) (m : τ → Nat) (inv : τ → Prop) (r : β)
    (hs : ∀ t, inv t → Ev (fun k => L k t) r ∨ ∃ t', inv t' ∧ m t' < m t ∧ ∃ K, ∀ k, K ≤ k → L (k + 1) t = L k t') : ∀ t, inv t → Ev (fun k => L k t) r := by
  have go : ∀ d t, m t ≤ d → inv t → Ev (fun k => L k t) r := by
    intro d
    induction d with
    | zero =>
      intro t hd hi
      rcases hs t hi with h | ⟨t', _, hm, _⟩
      · exact h
      · omega
    | succ d ih =>
      intro t hd hi
      rcases hs t hi with h | ⟨t', hi', hm, K, hK⟩
      · exact h
      · exact Ev.late_step K hK (ih t' (by omega) hi')
  intro t hi
  exact go (m t) t (Nat.le_refl _) hi
/-- A loop that counts up to n. -/
theorem up_ev {σ β : Type} (L : Nat → Nat → σ → Option β) (n : Nat) (inv : Nat → σ → Prop) (r : β)
    (hs : ∀ i s, i < n → inv i s → Ev (fun k => L k i s) r ∨ ∃ s', inv (i + 1) s' ∧ ∃ K, ∀ k, K ≤ k → L (k + 1) i s = L k (i + 1) s')
    (he : ∀ s, inv n s → Ev (fun k => L k n s) r) (i : Nat) (s : σ) (hi : i ≤ n) (h : inv i s) : Ev (fun k => L k i s) r := by
  refine meas_ev (τ := Nat × σ) (fun k t => L k t.1 t.2) (fun t => n - t.1) (fun t => t.1 ≤ n ∧ inv t.1 t.2) r ?_ (i, s) ⟨hi, h⟩
  rintro ⟨i, s⟩ ⟨hi, h⟩
  by_cases hn : i = n
  · subst hn
    exact .inl (he s h)
  · rcases hs i s (by simp only at hi; omega) h with h1 | ⟨s', h', K, hK⟩
    · exact .inl h1
    · exact .inr ⟨(i + 1, s'), ⟨by simp only at hi ⊢; omega, h'⟩, by simp only at hi ⊢; omega, K, hK⟩
/-- The same, each step told by what follows. -/
theorem meas_ev' {τ β : Type} (L : Nat → τ → Option β) (m : τ → Nat) (inv : τ → Prop) (r : β)
    (hs : ∀ t, inv t → (∀ t', inv t' → m t' < m t → Ev (fun k => L k t') r) → Ev (fun k => L k t) r) : ∀ t, inv t → Ev (fun k => L k t) r := by
  have go : ∀ d t, m t ≤ d → inv t → Ev (fun k => L k t) r := by
    intro d
    induction d with
    | zero => exact fun t hd hi => hs t hi (fun t' _ hm => absurd hm (by omega))
    | succ d ih => exact fun t hd hi => hs t hi (fun t' hi' hm => ih t' (by omega) hi')
  intro t hi
  exact go (m t) t (Nat.le_refl _) hi
theorem up_ev' {σ β : Type} (L : Nat → Nat → σ → Option β) (n : Nat) (inv : Nat → σ → Prop) (r : β)
    (hs : ∀ i s, i < n → inv i s → (∀ s', inv (i + 1) s' → Ev (fun k => L k (i + 1) s') r) → Ev (fun k => L k i s) r)
    (he : ∀ s, inv n s → Ev (fun k => L k n s) r) (i : Nat) (s : σ) (hi : i ≤ n) (h : inv i s) : Ev (fun k => L k i s) r := by
  refine meas_ev' (τ := Nat × σ) (fun k t => L k t.1 t.2) (fun t => n - t.1) (fun t => t.1 ≤ n ∧ inv t.1 t.2) r ?_ (i, s) ⟨hi, h⟩
  rintro ⟨i, s⟩ ⟨hi, h⟩ ih
  by_cases hn : i = n
  · subst hn
    exact he s h
  · exact hs i s (by simp only at hi; omega) h (fun s' h' => ih (i + 1, s') ⟨by simp only at hi ⊢; omega, h'⟩ (by simp only at hi ⊢; omega))
/-- A loop without a state but its count. -/
theorem upto_ev {β : Type} (L : Nat → Nat → Option β) (n : Nat) (inv : Nat → Prop) (r : β)
    (hs : ∀ i, i < n → inv i → (inv (i + 1) → Ev (fun k => L k (i + 1)) r) → Ev (fun k => L k i) r)
    (he : inv n → Ev (fun k => L k n) r) (i : Nat) (hi : i ≤ n) (h : inv i) : Ev (fun k => L k i) r :=
  up_ev' (σ := Unit) (fun k i _ => L k i) n (fun i _ => inv i) r (fun i _ h1 h2 ih => hs i h1 h2 (fun h3 => ih () h3)) (fun _ h1 => he h1) i () hi h
end Go.Proofs.YtlfjmklhifjalaaDoor.P
