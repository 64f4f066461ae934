/- The graphs that the laws draw are valid ones. -/
import Derived.Test.YtakgeblhdckccaaDoorG1J
import Derived.Test.YtakgeblhdckccaaDoorQj0
namespace Go.Proofs.YtakgeblhdckccaaDoor.P
open Go.RowKit Go.Proofs.YtakgeblhdckccaaDoorW.PrintWords Go.Proofs.YtakgeblhdckccaaDoorW.PrintLast Go.Proofs.YtakgeblhdckccaaDoorW.PrintMore Go.Proofs.YtakgeblhdckccaaDoor.Q
set_option linter.unusedVariables false

theorem and255 (a : Int) : 0 ≤ Go.bits .and .i64 a 255 ∧ Go.bits .and .i64 a 255 ≤ 255 := by
  have h : (BitVec.ofInt IntKind.i64.bits a &&& BitVec.ofInt IntKind.i64.bits 255).toNat ≤ 255 := by
    rw [BitVec.toNat_and]
    exact Nat.le_trans Nat.and_le_right (by decide)
  have e : Go.bits .and .i64 a 255 = IntKind.i64.wrap (((BitVec.ofInt IntKind.i64.bits a &&& BitVec.ofInt IntKind.i64.bits 255).toNat : Nat) : Int) := rfl
  rw [e, wraps62 _ (by omega) (by omega)]
  omega
/-- A place in what is read. -/
def At (b : List Int) (i : Int) : Prop := 0 ≤ i ∧ i ≤ (b.length : Int)
section
variable {b : List Int}
theorem byte_f (hb : b.length ≤ 1048576) {i : Int} (hi : At b i) (h : Int) : ∃ x i' h', spec_l01Byte.f b i h = some (x, i', h') ∧ (0 ≤ x ∧ x ≤ 255) ∧ At b i' := by
  unfold spec_l01Byte.f
  by_cases c : i < (b.length : Int)
  · rw [if_pos c, if_pos hi.1]
    refine ⟨_, _, _, rfl, and255 _, ?_⟩
    obtain ⟨h0, h1⟩ := hi
    rw [wrap_small (by omega) (by omega)]
    exact ⟨by omega, by omega⟩
  · rw [if_neg c]
    exact ⟨_, _, _, rfl, and255 _, hi⟩
theorem below_f (hb : b.length ≤ 1048576) {i : Int} (hi : At b i) (h : Int) {n : Nat} (h1 : 1 ≤ n) (h2 : n ≤ 256) : ∃ (y : Nat) (i' h' : Int), spec_l01Below.f b i h (n : Int) = some ((y : Int), i', h') ∧ y < n ∧ At b i' := by
  obtain ⟨x, i', h', e, hx, hi'⟩ := byte_f hb hi h
  unfold spec_l01Below.f
  rw [if_neg (by omega), if_pos (by omega), e, Option.bind_some, if_neg (by omega)]
  have e2 : Int.tmod x (n : Int) = ((x.toNat % n : Nat) : Int) := by
    obtain ⟨m, rfl⟩ : ∃ m : Nat, x = (m : Int) := ⟨x.toNat, by omega⟩
    rfl
  refine ⟨x.toNat % n, i', h', ?_, Nat.mod_lt _ (by omega), hi'⟩
  simp only [e2]
theorem once_f (hb : b.length ≤ 1048576) {i : Int} (hi : At b i) (h : Int) : ∃ (y : Bool) (i' h' : Int), spec_l01Once.f b i h 12 = some (y, i', h') ∧ At b i' := by
  obtain ⟨y, i', h', e, _, hi'⟩ := below_f hb hi h (n := 12) (by omega) (by omega)
  unfold spec_l01Once.f
  rw [show (12 : Int) = ((12 : Nat) : Int) from rfl, e, Option.bind_some]
  exact ⟨_, _, _, rfl, hi'⟩
theorem new_ev (hb : b.length ≤ 1048576) : ∃ h, Ev (fun k => spec_l01New.f k b) (b, 0, h) := by
  have go : ∀ d i x, b.length = i + d → ∃ h, Ev (fun k => spec_l01New.l0 k b x ((i : Nat) : Int)) (b, 0, h) := by
    intro d
    induction d with
    | zero =>
      intro i x hd
      refine ⟨x, Ev.one fun k => ?_⟩
      simp only [spec_l01New.l0]
      rw [if_neg (by omega)]
    | succ d ih =>
      intro i x hd
      by_cases c : (i : Int) < 4000
      · obtain ⟨h, hh⟩ := ih (i + 1) _ (by omega)
        refine ⟨h, Ev.late_step 0 (fun k _ => ?_) hh⟩
        simp only [spec_l01New.l0]
        rw [if_pos (by omega), if_pos c, if_pos (by omega), wrap_succ (by omega)]
      · refine ⟨x, Ev.one fun k => ?_⟩
        simp only [spec_l01New.l0]
        rw [if_pos (by omega), if_neg c]
  obtain ⟨h, hh⟩ := go b.length 0 (wrap64 (2125 + (b.length : Int))) (by omega)
  exact ⟨h, Ev.late_eq 0 (fun k _ => by unfold spec_l01New.f; rfl) hh⟩
theorem new15_ev (hb : b.length ≤ 1048576) (n : Nat) (hn : n ≤ 1000) : ∃ i h, At b i ∧ Ev (fun k => spec_l15New.f k b (n : Int)) (b, i, h) := by
  have go : ∀ d j i h, n = j + d → At b i → ∃ i' h', At b i' ∧ Ev (fun k => spec_l15New.l0 k (n : Int) ((j : Nat) : Int) b i h) (b, i', h') := by
    intro d
    induction d with
    | zero =>
      intro j i h hd hi
      refine ⟨i, h, hi, Ev.one fun k => ?_⟩
      simp only [spec_l15New.l0]
      rw [if_neg (by omega)]
    | succ d ih =>
      intro j i h hd hi
      obtain ⟨x, i1, h1, e, _, hi1⟩ := byte_f hb hi h
      obtain ⟨i2, h2, hi2, hE⟩ := ih (j + 1) i1 h1 (by omega) hi1
      refine ⟨i2, h2, hi2, Ev.late_step 0 (fun k _ => ?_) hE⟩
      simp only [spec_l15New.l0]
      rw [if_pos (by omega), e, Option.bind_some, wrap_succ (by omega)]
  obtain ⟨h, K, hK⟩ := new_ev hb
  obtain ⟨i', h', hi', K2, hK2⟩ := go n 0 0 h (by omega) ⟨by omega, by omega⟩
  refine ⟨i', h', hi', K + K2, fun k hk => ?_⟩
  have e := hK k (by omega)
  have e2 := hK2 k (by omega)
  simp only at e e2 ⊢
  unfold spec_l15New.f
  rw [e, Option.bind_some]
  exact e2
end

/-! ### drawn graphs -/
theorem V.empty {n : Nat} (h1 : 1 ≤ n) (h8 : n ≤ 8) : V n (fun _ => 0) := ⟨h1, h8, fun _ _ => Nat.two_pow_pos n, fun _ _ => Nat.zero_testBit _, fun _ _ _ _ => by simp, fun _ _ => rfl⟩
/-- An edge more. -/
def joinR (R : Nat → Nat) (v w u : Nat) : Nat := if u = w then R u ||| 2 ^ v else if u = v then R u ||| 2 ^ w else R u
theorem joinR_bit {R : Nat → Nat} {v w : Nat} (hvw : v ≠ w) (a b : Nat) : (joinR R v w a).testBit b = ((R a).testBit b || decide (a = w ∧ b = v) || decide (a = v ∧ b = w)) := by
  unfold joinR
  by_cases h1 : a = w
  · subst h1
    rw [if_pos rfl, Nat.testBit_or, bit_eq, decide_eq_false (fun h : a = v ∧ b = a => hvw h.1.symm), Bool.or_false]
    congr 1
    rw [decide_eq_decide]
    constructor
    · intro h; exact ⟨rfl, h.symm⟩
    · intro h; exact h.2.symm
  · rw [if_neg h1, decide_eq_false (fun h : a = w ∧ b = v => h1 h.1), Bool.or_false]
    by_cases h2 : a = v
    · subst h2
      rw [if_pos rfl, Nat.testBit_or, bit_eq]
      congr 1
      rw [decide_eq_decide]
      constructor
      · intro h; exact ⟨rfl, h.symm⟩
      · intro h; exact h.2.symm
    · rw [if_neg h2, decide_eq_false (fun h : a = v ∧ b = w => h2 h.1), Bool.or_false]
theorem V.join {n : Nat} {R : Nat → Nat} (hV : V n R) {v w : Nat} (hv : v < n) (hw : w < n) (hvw : v ≠ w) : V n (joinR R v w) := by
  refine ⟨hV.pos, hV.le, ?_, ?_, ?_, ?_⟩
  · intro u hu
    unfold joinR
    split
    · exact or_lt (hV.lt u hu) (bit_lt hv)
    · split
      · exact or_lt (hV.lt u hu) (bit_lt hw)
      · exact hV.lt u hu
  · intro u hu
    rw [joinR_bit hvw, hV.irr u hu, decide_eq_false (fun h : u = w ∧ u = v => hvw (h.2.symm.trans h.1)), decide_eq_false (fun h : u = v ∧ u = w => hvw (h.1.symm.trans h.2))]
    rfl
  · intro a b ha hb
    rw [joinR_bit hvw, joinR_bit hvw, hV.sym a b ha hb, Bool.or_assoc, Bool.or_assoc]
    congr 1
    rw [Bool.or_comm]
    congr 1
    · rw [decide_eq_decide]; exact And.comm
    · rw [decide_eq_decide]; exact And.comm
  · intro u hu
    unfold joinR
    rw [if_neg (by omega), if_neg (by omega)]
    exact hV.out u hu
theorem rows_set0 {n : Nat} (Q : Nat → Nat) {v : Nat} (x : Nat) (h : v < n) : (rows n Q).set v (x : Int) = rows n (fun u => if u = v then x else Q u) := by
  apply List.ext_getElem
  · simp [rows]
  · intro i h1 h2
    have hi : i < n := by simpa [rows] using h2
    rw [List.getElem_set]
    by_cases e : v = i
    · subst e
      simp [rows]
    · rw [if_neg e]
      simp only [rows, List.getElem_map, List.getElem_range]
      rw [if_neg (fun h => e h.symm)]
theorem join_f {n : Nat} {R : Nat → Nat} (hV : V n R) (s : Int) {v w : Nat} (hv : v < n) (hw : w < n) (hvw : v ≠ w) : spec_l02Join.f s (rows n R) (v : Int) (w : Int) = some (rows n (joinR R v w)) := by
  have hn := hV.le
  have rr : ∀ (Q : Nat → Nat) u, u < n → rd (rows n Q) ((u : Nat) : Int) = (Q u : Int) := by
    intro Q u hu
    rw [rd_nat]
    simp [rows, List.getD_eq_getElem?_getD, hu]
  have l62 : ∀ a, a < 2 ^ n → a < 2 ^ 62 := fun a ha => by have := lt_256 hn ha; omega
  unfold spec_l02Join.f
  rw [if_pos (by omega), if_pos (by rw [rows_len]; omega), if_pos (by omega), rr R v hv, shl1 (by omega), or_nat (l62 _ (hV.lt v hv)) (l62 _ (bit_lt hw)), Int.toNat_natCast, rows_set0 _ _ hv, Option.bind_some, if_pos (by rw [rows_len]; omega), rr _ w hw, if_neg (fun h => hvw h.symm), shl1 (by omega), or_nat (l62 _ (hV.lt w hw)) (l62 _ (bit_lt hv)), Int.toNat_natCast, rows_set0 _ _ hw]
  congr 2
  funext u
  unfold joinR
  by_cases h1 : u = w
  · subst h1; rw [if_pos rfl, if_pos rfl]
  · rw [if_neg h1, if_neg h1]
    by_cases h2 : u = v
    · subst h2; simp
    · rw [if_neg h2, if_neg h2]
theorem draw1_ev {b : List Int} (hb : b.length ≤ 1048576) {n : Nat} : ∀ (d : Nat), d ≤ 1000 → ∀ (R : Nat → Nat), V n R → ∀ i h, At b i → ∃ R' i' h', V n R' ∧ At b i' ∧ Ev (fun k => spec_l02Draw.l1 k (n : Int) ((d : Nat) : Int) b i h (n : Int) (rows n R)) ((n : Int), rows n R', i', h') := by
  intro d
  induction d with
  | zero =>
    intro _ R hV i h hi
    refine ⟨R, i, h, hV, hi, Ev.one fun k => ?_⟩
    simp only [spec_l02Draw.l1]
    rw [if_neg (by omega)]
  | succ d ih =>
    intro hd R hV i h hi
    have h1 := hV.pos
    have h8 := hV.le
    obtain ⟨v, i1, x1, e1, hv, hi1⟩ := below_f hb hi h (n := n) h1 (by omega)
    obtain ⟨w, i2, x2, e2, hw, hi2⟩ := below_f hb hi1 x1 (n := n) h1 (by omega)
    by_cases hvw : v = w
    · obtain ⟨R', i', h', hV', hi', hE⟩ := ih (by omega) R hV i2 x2 hi2
      refine ⟨R', i', h', hV', hi', Ev.late_step 0 (fun k _ => ?_) hE⟩
      simp only [spec_l02Draw.l1]
      rw [if_pos (by omega), e1, Option.bind_some, e2, Option.bind_some, if_pos (by omega), wrap_small (by omega) (by omega), show (((d + 1 : Nat) : Int) - 1) = (d : Int) by omega]
    · obtain ⟨R', i', h', hV', hi', hE⟩ := ih (by omega) _ (hV.join hv hw hvw) i2 x2 hi2
      refine ⟨R', i', h', hV', hi', Ev.late_step 0 (fun k _ => ?_) hE⟩
      simp only [spec_l02Draw.l1]
      rw [if_pos (by omega), e1, Option.bind_some, e2, Option.bind_some, if_neg (by omega), join_f hV _ hv hw hvw, Option.bind_some, wrap_small (by omega) (by omega), show (((d + 1 : Nat) : Int) - 1) = (d : Int) by omega]
theorem draw0_ev {b : List Int} (hb : b.length ≤ 1048576) {n : Nat} : ∀ (d j : Nat), n = j + d → 1 ≤ j → ∀ (R : Nat → Nat), V n R → ∀ i h, At b i → ∃ R' i' h', V n R' ∧ At b i' ∧ Ev (fun k => spec_l02Draw.l0 k (n : Int) ((j : Nat) : Int) b i h (n : Int) (rows n R)) ((n : Int), rows n R', i', h') := by
  intro d
  induction d with
  | zero =>
    intro j hj h1 R hV i h hi
    obtain ⟨y, i1, x1, e1, hy, hi1⟩ := below_f hb hi h (n := 5) (by omega) (by omega)
    obtain ⟨R', i', h', hV', hi', hE⟩ := draw1_ev hb y (by omega) R hV i1 x1 hi1
    refine ⟨R', i', h', hV', hi', Ev.late_step 0 (fun k _ => ?_) hE⟩
    simp only [spec_l02Draw.l0]
    rw [if_neg (by omega), show (5 : Int) = ((5 : Nat) : Int) from rfl, e1, Option.bind_some]
  | succ d ih =>
    intro j hj h1 R hV i h hi
    have h8 := hV.le
    obtain ⟨y, i1, x1, e1, hi1⟩ := once_f hb hi h
    cases y with
    | true =>
      obtain ⟨R', i', h', hV', hi', hE⟩ := ih (j + 1) (by omega) (by omega) R hV i1 x1 hi1
      refine ⟨R', i', h', hV', hi', Ev.late_step 0 (fun k _ => ?_) hE⟩
      simp only [spec_l02Draw.l0]
      rw [if_pos (by omega), e1, Option.bind_some, if_pos rfl, wrap_succ (by omega)]
    | false =>
      obtain ⟨v, i2, x2, e2, hv, hi2⟩ := below_f hb hi1 x1 (n := j) h1 (by omega)
      obtain ⟨R', i', h', hV', hi', hE⟩ := ih (j + 1) (by omega) (by omega) _ (hV.join (show v < n by omega) (show j < n by omega) (by omega)) i2 x2 hi2
      refine ⟨R', i', h', hV', hi', Ev.late_step 0 (fun k _ => ?_) hE⟩
      simp only [spec_l02Draw.l0]
      rw [if_pos (by omega), e1, Option.bind_some, if_neg (by simp), e2, Option.bind_some, join_f hV _ (by omega) (by omega) (by omega), Option.bind_some, wrap_succ (by omega)]
theorem rows_zero (n : Nat) : List.replicate n (0 : Int) = rows n (fun _ => 0) := by
  apply List.ext_getElem
  · simp [rows]
  · intro i h1 h2
    simp [rows]
theorem draw_ev {b : List Int} (hb : b.length ≤ 1048576) {i : Int} (hi : At b i) (h : Int) {m : Nat} (h1 : 1 ≤ m) (h8 : m ≤ 8) : ∃ n R i' h', n ≤ m ∧ V n R ∧ At b i' ∧ Ev (fun k => spec_l02Draw.f k b i h (m : Int)) ((n : Int), rows n R, i', h') := by
  obtain ⟨y, i1, x1, e1, hy, hi1⟩ := below_f hb hi h (n := m) h1 (by omega)
  have hw : wrap64 (1 + (y : Int)) = ((y + 1 : Nat) : Int) := by rw [wrap_small (by omega) (by omega)]; omega
  obtain ⟨R', i', h', hV', hi', hE⟩ := draw0_ev hb y 1 (show y + 1 = 1 + y by omega) (Nat.le_refl _) _ (V.empty (n := y + 1) (by omega) (by omega)) i1 x1 hi1
  refine ⟨y + 1, R', i', h', by omega, hV', hi', Ev.late_eq 0 (fun k _ => ?_) hE⟩
  unfold spec_l02Draw.f spec_EmptyGraph.f
  rw [e1, Option.bind_some, hw, spec_l01In_f, Option.bind_some, decide_eq_true (by omega), if_pos rfl, if_pos (by omega), Int.toNat_natCast, if_pos (by omega), Option.bind_some, rows_zero]
  rfl
/-- A drawn graph of up to m vertices. -/
theorem makeGraph_ev {b : List Int} (hb : b.length ≤ 1048576) (a : Nat) (ha : a ≤ 1000) {m : Nat} (h1 : 1 ≤ m) (h8 : m ≤ 8) : ∃ n R, n ≤ m ∧ V n R ∧ Ev (fun k => spec_MakeGraph.f k b (a : Int) (m : Int)) ((n : Int), rows n R) := by
  obtain ⟨i, h, hi, K, hK⟩ := new15_ev hb a ha
  obtain ⟨n, R, i', h', hn, hV, _, K2, hK2⟩ := draw_ev hb hi h h1 h8
  refine ⟨n, R, hn, hV, K + K2, fun k hk => ?_⟩
  have e := hK k (by omega)
  have e2 := hK2 k (by omega)
  simp only at e e2 ⊢
  have hm : mx 1 (mn (m : Int) 8) = (m : Int) := by unfold mx mn; (repeat' split) <;> omega
  unfold spec_MakeGraph.f
  rw [e, Option.bind_some, hm]
  simp only [e2, Option.bind_some]
end Go.Proofs.YtakgeblhdckccaaDoor.P
