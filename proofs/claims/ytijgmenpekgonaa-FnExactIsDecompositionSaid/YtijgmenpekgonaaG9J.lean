/- When a decomposition is in order: what the reference answers, and that both answer alike. -/
import Derived.Test.YtijgmenpekgonaaG8J
namespace Go.Proofs.Ytijgmenpekgonaa.P
open Go.RowKit Go.Proofs.YtijgmenpekgonaaW.PrintWords Go.Proofs.YtijgmenpekgonaaW.PrintLast Go.Proofs.YtijgmenpekgonaaW.PrintMore Go.Proofs.Ytijgmenpekgonaa.Q
set_option linter.unusedVariables false
section
variable {n : Nat} {R : Nat → Nat} {bs ps : List Int}
theorem held_bit (i v u : Nat) : (held bs i v).testBit u = true ↔ ∃ j, j < i ∧ (bg bs j).testBit v = true ∧ (bg bs j).testBit u = true := by
  induction i with
  | zero =>
    rw [held, Nat.zero_testBit]
    constructor
    · intro h; cases h
    · rintro ⟨j, hj, _⟩; omega
  | succ i ih =>
    rw [held]
    by_cases hb : (bg bs i).testBit v = true
    · rw [if_pos hb, Nat.testBit_or, Bool.or_eq_true, ih]
      constructor
      · rintro (⟨j, h1, h2, h3⟩ | h)
        · exact ⟨j, by omega, h2, h3⟩
        · exact ⟨i, by omega, hb, h⟩
      · rintro ⟨j, h1, h2, h3⟩
        by_cases e : j = i
        · rw [e] at h3; exact .inr h3
        · exact .inl ⟨j, by omega, h2, h3⟩
    · rw [if_neg hb, ih]
      constructor
      · rintro ⟨j, h1, h2, h3⟩
        exact ⟨j, by omega, h2, h3⟩
      · rintro ⟨j, h1, h2, h3⟩
        by_cases e : j = i
        · rw [e] at h2; exact absurd h2 hb
        · exact ⟨j, by omega, h2, h3⟩
theorem tops_some {v i : Nat} (h : 1 ≤ tops bs ps v i) : ∃ j, j < i ∧ (bg bs j).testBit v = true := by
  induction i with
  | zero => rw [tops] at h; omega
  | succ i ih =>
    rw [tops] at h
    cases ht : top bs ps v i with
    | true =>
      refine ⟨i, by omega, ?_⟩
      unfold top at ht
      rw [Bool.and_eq_true] at ht
      exact ht.1
    | false =>
      rw [ht, if_neg (by decide)] at h
      obtain ⟨j, h1, h2⟩ := ih h
      exact ⟨j, by omega, h2⟩
theorem sd_or_zero {a b h : Nat} : sd (a ||| b) h = 0 ↔ sd a h = 0 ∧ sd b h = 0 := by
  constructor
  · intro e
    constructor
    · apply set_ext
      intro i
      have := congrArg (fun x => x.testBit i) e
      simp only [sd_bit, Nat.testBit_or, Nat.zero_testBit] at this ⊢
      cases h1 : a.testBit i <;> cases h2 : b.testBit i <;> cases h3 : h.testBit i <;> simp_all
    · apply set_ext
      intro i
      have := congrArg (fun x => x.testBit i) e
      simp only [sd_bit, Nat.testBit_or, Nat.zero_testBit] at this ⊢
      cases h1 : a.testBit i <;> cases h2 : b.testBit i <;> cases h3 : h.testBit i <;> simp_all
  · rintro ⟨e1, e2⟩
    apply set_ext
    intro i
    have h1 := congrArg (fun x => x.testBit i) e1
    have h2 := congrArg (fun x => x.testBit i) e2
    simp only [sd_bit, Nat.testBit_or, Nat.zero_testBit] at h1 h2 ⊢
    cases h4 : a.testBit i <;> cases h5 : b.testBit i <;> cases h3 : h.testBit i <;> simp_all
theorem edge_spec {v : Nat} (ht : tops bs ps v bs.length = 1) : sd (R v ||| 2 ^ v) (held bs bs.length v) = 0 ↔ sd (R v) (held bs bs.length v) = 0 := by
  rw [sd_or_zero]
  constructor
  · exact fun h => h.1
  · intro h
    refine ⟨h, ?_⟩
    obtain ⟨j, h1, h2⟩ := tops_some (show 1 ≤ tops bs ps v bs.length by omega)
    apply set_ext
    intro i
    rw [sd_bit, bit_eq, Nat.zero_testBit]
    by_cases e : v = i
    · subst e
      rw [(held_bit bs.length v v).2 ⟨j, h1, h2, h2⟩]
      simp
    · rw [decide_eq_false e]; rfl
theorem edges_ev (hV : V n R) (hm : bs.length ≤ 1000000) (hb : bagsOk n bs) (ht : topsOk n bs ps) : Ev (fun k => spec_l09Edges.f k (n : Int) (rows n R) bs) (cd (edgesOk n R bs)) := by
  have hn := hV.le
  have L0 : Ev (fun k => spec_l09Edges.l0 k bs (rows n R) ((rows n R).length : Int) ((0 : Nat) : Int)) (cd (edgesOk n R bs)) := by
    refine upto_ev (fun k i => spec_l09Edges.l0 k bs (rows n R) ((rows n R).length : Int) (i : Int)) n (fun i => ∀ v, v < i → sd (R v) (held bs bs.length v) = 0) _ ?_ ?_ 0 (Nat.zero_le _) (fun v hv => by omega)
    · intro v hv hinv ih
      have L1 : Ev (fun k => spec_l09Edges.l1 k bs (v : Int) (rd (rows n R) (v : Int)) ((held bs 0 v : Nat) : Int) (rows n R) ((rows n R).length : Int) (v : Int) bs (bs.length : Int) ((0 : Nat) : Int)) (cd (edgesOk n R bs)) := by
        refine upto_ev (fun k i => spec_l09Edges.l1 k bs (v : Int) (rd (rows n R) (v : Int)) ((held bs i v : Nat) : Int) (rows n R) ((rows n R).length : Int) (v : Int) bs (bs.length : Int) (i : Int)) bs.length (fun _ => True) _ ?_ ?_ 0 (Nat.zero_le _) trivial
        · intro i hi _ ih2
          have hS := bg_lt (hb i hi)
          refine Ev.late_step 0 (fun k _ => ?_) (ih2 trivial)
          simp only [spec_l09Edges.l1]
          rw [if_pos (by omega), if_pos (by omega), if_pos (by omega), bg_rd (hb i hi).1, spec_has_f (lt62 hn hS) (by omega), Option.bind_some, or_nat (lt62 hn (held_lt (fun j hj => hb j (by omega)) v)) (lt62 hn hS), wrap_succ (by omega), held]
          by_cases hbit : (bg bs i).testBit v = true
          · rw [if_pos hbit, if_pos hbit]
          · rw [if_neg hbit, if_neg hbit]
        · intro _
          have hh := held_lt (n := n) (bs := bs) (i := bs.length) hb v
          have ho := or_lt (hV.lt' v) (bit_lt hv)
          by_cases h0 : sd (R v) (held bs bs.length v) = 0
          · refine Ev.late_step 0 (fun k _ => ?_) (ih fun u hu => ?_)
            · simp only [spec_l09Edges.l1]
              rw [if_neg (by omega), if_pos (by omega), rd_rows hV, shl1 (by omega), or_nat (lt62 hn (hV.lt' v)) (lt62 hn (bit_lt hv)), andNot_nat (lt62 hn ho) (lt62 hn hh), (edge_spec (ht v hv)).2 h0, if_pos (by rfl), wrap_succ (by omega)]
            · by_cases e : u = v
              · rw [e]; exact h0
              · exact hinv u (by omega)
          · rw [cd_false (fun h => h0 (h v hv))]
            have h1 : sd (R v ||| 2 ^ v) (held bs bs.length v) ≠ 0 := fun h => h0 ((edge_spec (ht v hv)).1 h)
            refine Ev.one fun k => ?_
            simp only [spec_l09Edges.l1]
            rw [if_neg (by omega), if_pos (by omega), rd_rows hV, shl1 (by omega), or_nat (lt62 hn (hV.lt' v)) (lt62 hn (bit_lt hv)), andNot_nat (lt62 hn ho) (lt62 hn hh), if_neg (by omega)]
      refine Ev.late_step 0 (fun k _ => ?_) L1
      simp only [spec_l09Edges.l0]
      rw [rows_len, if_pos (by omega), if_pos (by omega), if_pos (by omega)]
      rfl
    · intro hinv
      rw [cd_true (show edgesOk n R bs from hinv)]
      refine Ev.one fun k => ?_
      simp only [spec_l09Edges.l0]
      rw [rows_len, if_neg (by omega)]
  exact L0
/-- The table of tops, after i bags. -/
structure TopT (n : Nat) (bs ps : List Int) (i : Nat) (x : List Int) : Prop where
  len : x.length = n
  val : ∀ v, v < n → rd x (v : Int) = ((tops bs ps v i : Nat) : Int)
theorem rd_set_at {t : List Int} {i : Nat} {x : Int} (h : i < t.length) : rd (t.set i x) (i : Int) = x := by
  rw [rd_nat]; simp [List.getD_eq_getElem?_getD, h]
theorem rd_set_off {t : List Int} {i j : Nat} {x : Int} (h : i ≠ j) : rd (t.set i x) (j : Int) = rd t (j : Int) := by
  rw [rd_nat, rd_nat]; simp [List.getD_eq_getElem?_getD, List.getElem?_set_ne h]
theorem isDec_spec (hV : V n R) (hG : Ev (fun k => spec_GraphOk.f k (n : Int) (rows n R)) true) : Ev (fun k => spec_IsDecomposition.f k (n : Int) (rows n R) bs ps) (cd (DecOk n R bs ps)) := by
  have hn := hV.le
  obtain ⟨K, hK⟩ := hG
  obtain ⟨hp2, hp0⟩ := small_pow hn
  -- the last loop: each has one top
  have L3 : (1 ≤ bs.length ∧ bs.length ≤ 8) → ps.length = bs.length → bagsOk n bs → parOk bs ps → ∀ x, TopT n bs ps bs.length x → Ev (fun k => spec_IsDecomposition.l3 k x (x.length : Int) ((0 : Nat) : Int) (n : Int) (rows n R) bs ps) (cd (DecOk n R bs ps)) := by
    intro hm hl hb hp x hx
    have hxl := hx.len
    refine upto_ev (fun k i => spec_IsDecomposition.l3 k x (x.length : Int) (i : Int) (n : Int) (rows n R) bs ps) n (fun i => ∀ v, v < i → tops bs ps v bs.length = 1) _ ?_ ?_ 0 (Nat.zero_le _) (fun v hv => by omega)
    · intro i hi hinv ih
      by_cases h1 : tops bs ps i bs.length = 1
      · refine Ev.late_step 0 (fun k _ => ?_) (ih fun v hv => ?_)
        · simp only [spec_IsDecomposition.l3]
          rw [if_pos (by omega), if_pos (by omega), if_pos (by omega), hx.val i hi, if_pos (by omega), wrap_succ (by omega)]
        · by_cases e : v = i
          · rw [e]; exact h1
          · exact hinv v (by omega)
      · rw [cd_false (fun h => h1 (h.2.2.2.2 i hi))]
        refine Ev.one fun k => ?_
        simp only [spec_IsDecomposition.l3]
        rw [if_pos (by omega), if_pos (by omega), if_pos (by omega), hx.val i hi, if_neg (by omega)]
    · intro hinv
      obtain ⟨K2, h2⟩ := edges_ev hV (by omega) hb hinv
      rw [cd_iff (show DecOk n R bs ps ↔ edgesOk n R bs from ⟨fun h => h.2.2.1.2, fun h => ⟨hm, hl, ⟨hb, h⟩, hp, hinv⟩⟩)]
      refine Ev.late K2 fun k hk => ?_
      have e := h2 k hk
      simp only at e
      simp only [spec_IsDecomposition.l3]
      rw [if_neg (by omega), e]
      rfl
  have L1 : (1 ≤ bs.length ∧ bs.length ≤ 8) → ps.length = bs.length → bagsOk n bs → parOk bs ps → Ev (fun k => spec_IsDecomposition.l1 k (List.replicate n 0) bs (bs.length : Int) ((0 : Nat) : Int) (n : Int) (rows n R) bs ps) (cd (DecOk n R bs ps)) := by
    intro hm hl hb hp
    refine up_ev' (σ := List Int) (fun k i x => spec_IsDecomposition.l1 k x bs (bs.length : Int) (i : Int) (n : Int) (rows n R) bs ps) bs.length (fun i x => TopT n bs ps i x) _ ?_ ?_ 0 _ (Nat.zero_le _) ⟨by simp, fun v hv => by rw [rd_nat]; simp [tops, List.getD_eq_getElem?_getD, hv]⟩
    · intro i x hi hx ih
      have hxl := hx.len
      have hS := bg_lt (hb i hi)
      obtain ⟨K2, h2⟩ := list_spec_ev (lt62 hn hS)
      have htop : ∀ v, v ∈ bl (bg bs i) → top bs ps v i = (decide (ps.getD i 0 < 0) || !(bg bs (ps.getD i 0).toNat).testBit v) := by
        intro v hv
        unfold top
        rw [(bl_mem hv).2, Bool.true_and]
      have L2 : Ev (fun k => spec_IsDecomposition.l2 k x (rd ps (i : Int)) bs (bs.length : Int) (i : Int) (ints (bl (bg bs i))) ((ints (bl (bg bs i))).length : Int) ((0 : Nat) : Int) (n : Int) (rows n R) bs ps) (cd (DecOk n R bs ps)) := by
        refine up_ev' (σ := List Int) (fun k q y => spec_IsDecomposition.l2 k y (rd ps (i : Int)) bs (bs.length : Int) (i : Int) (ints (bl (bg bs i))) ((ints (bl (bg bs i))).length : Int) (q : Int) (n : Int) (rows n R) bs ps) (bl (bg bs i)).length (fun q y => y.length = n ∧ ∀ v, v < n → rd y (v : Int) = ((if v ∈ (bl (bg bs i)).take q ∧ top bs ps v i = true then tops bs ps v i + 1 else tops bs ps v i : Nat) : Int)) _ ?_ ?_ 0 x (Nat.zero_le _) ⟨hxl, fun v hv => by rw [List.take_zero, if_neg (fun h => List.not_mem_nil h.1)]; exact hx.val v hv⟩
        · intro q y hq ⟨hy, hyv⟩ ih2
          have h8 := bl_len (bg bs i)
          have hw := bl_lt hS (List.getElem_mem hq)
          have hwt := htop _ (List.getElem_mem hq)
          generalize hwe : (bl (bg bs i))[q] = w at hw hwt
          have hnew : w ∉ (bl (bg bs i)).take q := by rw [← hwe]; exact not_in_take (bl_nodup _) hq
          have hyw := hyv w hw
          rw [if_neg (fun h => hnew h.1)] at hyw
          have htl := tops_le (bs := bs) (ps := ps) w i
          -- w has its top here
          have yes : top bs ps w i = true → Ev (fun k => spec_IsDecomposition.l2 k (y.set w (wrap64 (rd y (w : Int) + 1))) (rd ps (i : Int)) bs (bs.length : Int) (i : Int) (ints (bl (bg bs i))) ((ints (bl (bg bs i))).length : Int) ((q + 1 : Nat) : Int) (n : Int) (rows n R) bs ps) (cd (DecOk n R bs ps)) := by
            intro ht
            refine ih2 _ ⟨by simp [hy], fun v hv => ?_⟩
            by_cases ev : v = w
            · subst ev
              rw [rd_set_at (by omega), hyw, if_pos ⟨(mem_take_succ hq v).2 (.inr hwe.symm), ht⟩, wrap_succ (by omega)]
            · rw [rd_set_off (fun h => ev h.symm), hyv v hv]
              congr 1
              by_cases hmem : v ∈ (bl (bg bs i)).take q ∧ top bs ps v i = true
              · rw [if_pos hmem, if_pos ⟨(mem_take_succ hq v).2 (.inl hmem.1), hmem.2⟩]
              · rw [if_neg hmem, if_neg]
                rintro ⟨hc, hc2⟩
                rcases (mem_take_succ hq v).1 hc with h | h
                · exact hmem ⟨h, hc2⟩
                · exact ev (h.trans hwe)
          have no : top bs ps w i = false → Ev (fun k => spec_IsDecomposition.l2 k y (rd ps (i : Int)) bs (bs.length : Int) (i : Int) (ints (bl (bg bs i))) ((ints (bl (bg bs i))).length : Int) ((q + 1 : Nat) : Int) (n : Int) (rows n R) bs ps) (cd (DecOk n R bs ps)) := by
            intro ht
            refine ih2 _ ⟨hy, fun v hv => ?_⟩
            rw [hyv v hv]
            congr 1
            by_cases hmem : v ∈ (bl (bg bs i)).take q ∧ top bs ps v i = true
            · rw [if_pos hmem, if_pos ⟨(mem_take_succ hq v).2 (.inl hmem.1), hmem.2⟩]
            · rw [if_neg hmem, if_neg]
              rintro ⟨hc, hc2⟩
              rcases (mem_take_succ hq v).1 hc with h | h
              · exact hmem ⟨h, hc2⟩
              · rw [h, hwe, ht] at hc2; cases hc2
          by_cases h1 : ps.getD i 0 < 0
          · have ht : top bs ps w i = true := by rw [hwt, decide_eq_true h1]; rfl
            refine Ev.late_step 0 (fun k _ => ?_) (yes ht)
            simp only [spec_IsDecomposition.l2]
            rw [ints_len, if_pos (by omega), if_pos (by omega), if_pos (by omega), rd_ints hq, hwe, if_pos (by rw [rd_nat]; exact h1), if_pos (by omega), if_pos (by omega), Int.toNat_natCast, wrap_succ (show q < 9223372036854775807 by omega)]
          · have h3 := hp i hi
            obtain ⟨p, hpe⟩ : ∃ p : Nat, ps.getD i 0 = (p : Int) := ⟨(ps.getD i 0).toNat, by omega⟩
            have hpl : p < bs.length := by omega
            have ht : top bs ps w i = !(bg bs p).testBit w := by rw [hwt, decide_eq_false h1, hpe, Int.toNat_natCast]; rfl
            have erd : rd ps (i : Int) = (p : Int) := by rw [rd_nat, hpe]
            by_cases hbit : (bg bs p).testBit w = true
            · refine Ev.late_step 0 (fun k _ => ?_) (no (by rw [ht, hbit]; rfl))
              simp only [spec_IsDecomposition.l2]
              rw [ints_len, if_pos (by omega), if_pos (by omega), if_pos (by omega), rd_ints hq, hwe, erd, if_neg (by omega), if_pos (by omega), if_pos (by omega), bg_rd (hb p hpl).1, spec_has_f (lt62 hn (bg_lt (hb p hpl))) (by omega), Option.bind_some, if_pos hbit, wrap_succ (show q < 9223372036854775807 by omega)]
            · refine Ev.late_step 0 (fun k _ => ?_) (yes (by rw [ht, show (bg bs p).testBit w = false by simpa using hbit]; rfl))
              simp only [spec_IsDecomposition.l2]
              rw [ints_len, if_pos (by omega), if_pos (by omega), if_pos (by omega), rd_ints hq, hwe, erd, if_neg (by omega), if_pos (by omega), if_pos (by omega), bg_rd (hb p hpl).1, spec_has_f (lt62 hn (bg_lt (hb p hpl))) (by omega), Option.bind_some, if_neg hbit, if_pos (by omega), if_pos (by omega), Int.toNat_natCast, wrap_succ (show q < 9223372036854775807 by omega)]
        · intro y ⟨hy, hyv⟩
          refine Ev.late_step 0 (fun k _ => ?_) (ih y ⟨hy, fun v hv => ?_⟩)
          · simp only [spec_IsDecomposition.l2]
            rw [ints_len, if_neg (by omega), wrap_succ (by omega)]
          · rw [hyv v hv, List.take_length, tops]
            congr 1
            cases ht : top bs ps v i with
            | false => rw [if_neg (by simp), if_neg (by decide)]
            | true =>
              have hbit : (bg bs i).testBit v = true := by
                unfold top at ht
                rw [Bool.and_eq_true] at ht
                exact ht.1
              rw [if_pos ⟨(mem_bl_iff hn hS v).2 hbit, rfl⟩, if_pos rfl]
      refine Ev.late_step K2 (fun k hk => ?_) L2
      have e2 := h2 k hk
      simp only at e2
      simp only [spec_IsDecomposition.l1]
      rw [if_pos (by omega), if_pos (by omega), if_pos (by omega), if_pos (by omega), bg_rd (hb i hi).1, e2, Option.bind_some]
      rfl
    · intro x hx
      refine Ev.late_step 0 (fun k _ => ?_) (L3 hm hl hb hp x hx)
      simp only [spec_IsDecomposition.l1]
      rw [if_neg (by omega)]
      rfl
  have L0 : (1 ≤ bs.length ∧ bs.length ≤ 8) → ps.length = bs.length → Ev (fun k => spec_IsDecomposition.l0 k (bs.length : Int) (List.replicate n 0) bs (bs.length : Int) ((0 : Nat) : Int) (n : Int) (rows n R) bs ps) (cd (DecOk n R bs ps)) := by
    intro hm hl
    refine upto_ev (fun k i => spec_IsDecomposition.l0 k (bs.length : Int) (List.replicate n 0) bs (bs.length : Int) (i : Int) (n : Int) (rows n R) bs ps) bs.length (fun i => ∀ j, j < i → (0 ≤ bs.getD j 0 ∧ bs.getD j 0 ≤ ((2 ^ n - 1 : Nat) : Int)) ∧ (ps.getD j 0 = -1 ∨ ((j : Int) + 1 ≤ ps.getD j 0 ∧ ps.getD j 0 ≤ (bs.length : Int) - 1))) _ ?_ ?_ 0 (Nat.zero_le _) (fun v hv => by omega)
    · intro i hi hinv ih
      by_cases h0 : 0 ≤ bs.getD i 0 ∧ bs.getD i 0 ≤ ((2 ^ n - 1 : Nat) : Int)
      · by_cases h1 : ps.getD i 0 = -1
        · refine Ev.late_step 0 (fun k _ => ?_) (ih fun j hj => ?_)
          · simp only [spec_IsDecomposition.l0]
            rw [if_pos (by omega), if_pos (by omega), if_pos (by omega), if_pos (by omega), if_pos (by omega), all_spec hn, spec_l01In_f, Option.bind_some, rd_nat, decide_eq_true h0, if_pos rfl, rd_nat, if_pos h1, wrap_succ (by omega)]
          · by_cases e : j = i
            · rw [e]; exact ⟨h0, .inl h1⟩
            · exact hinv j (by omega)
        · by_cases h2 : (i : Int) + 1 ≤ ps.getD i 0 ∧ ps.getD i 0 ≤ (bs.length : Int) - 1
          · refine Ev.late_step 0 (fun k _ => ?_) (ih fun j hj => ?_)
            · simp only [spec_IsDecomposition.l0]
              rw [if_pos (by omega), if_pos (by omega), if_pos (by omega), if_pos (by omega), if_pos (by omega), all_spec hn, spec_l01In_f, Option.bind_some, rd_nat, decide_eq_true h0, if_pos rfl, rd_nat, if_neg h1, spec_l01In_f, Option.bind_some, wrap_succ (by omega), wrap_small (by omega) (by omega), decide_eq_true (by omega), if_pos rfl]
            · by_cases e : j = i
              · rw [e]; exact ⟨h0, .inr h2⟩
              · exact hinv j (by omega)
          · rw [cd_false (fun (h : DecOk n R bs ps) => (h.2.2.2.1 i hi).elim h1 h2)]
            refine Ev.one fun k => ?_
            simp only [spec_IsDecomposition.l0]
            rw [if_pos (by omega), if_pos (by omega), if_pos (by omega), if_pos (by omega), if_pos (by omega), all_spec hn, spec_l01In_f, Option.bind_some, rd_nat, decide_eq_true h0, if_pos rfl, rd_nat, if_neg h1, spec_l01In_f, Option.bind_some, wrap_succ (by omega), wrap_small (by omega) (by omega), decide_eq_false (by omega), if_neg (by decide)]
      · rw [cd_false (fun (h : DecOk n R bs ps) => h0 (h.2.2.1.1 i hi))]
        refine Ev.one fun k => ?_
        simp only [spec_IsDecomposition.l0]
        rw [if_pos (by omega), if_pos (by omega), if_pos (by omega), if_pos (by omega), if_pos (by omega), all_spec hn, spec_l01In_f, Option.bind_some, rd_nat, decide_eq_false h0, if_neg (by decide)]
    · intro hinv
      refine Ev.late_step 0 (fun k _ => ?_) (L1 hm hl (fun j hj => (hinv j hj).1) (fun j hj => (hinv j hj).2))
      simp only [spec_IsDecomposition.l0]
      rw [if_neg (by omega)]
      rfl
  have bad : ¬ DecOk n R bs ps → ∀ k, spec_IsDecomposition.j0 (k + 1) (bs.length : Int) true (n : Int) (rows n R) bs ps = some (cd (DecOk n R bs ps)) := by
    intro h k
    rw [cd_false h]
    simp only [spec_IsDecomposition.j0]
    rw [if_pos trivial]
  by_cases hm : 1 ≤ bs.length ∧ bs.length ≤ 8
  · by_cases hl : ps.length = bs.length
    · obtain ⟨K2, hK2⟩ := L0 hm hl
      refine ⟨K + K2 + 1, fun k hk => ?_⟩
      obtain ⟨k, rfl⟩ : ∃ q, k = q + 1 := ⟨k - 1, by omega⟩
      have e := hK (k + 1) (by omega)
      have e2 := hK2 k (by omega)
      simp only at e e2 ⊢
      unfold spec_IsDecomposition.f
      rw [e, Option.bind_some, if_pos rfl, spec_l01In_f, Option.bind_some, decide_eq_true (by omega), if_pos rfl, hl, bne_self_eq_false]
      simp only [spec_IsDecomposition.j0]
      rw [if_neg (by decide), if_pos (by omega), if_pos (by omega), Int.toNat_natCast]
      exact e2
    · refine ⟨K + 1, fun k hk => ?_⟩
      obtain ⟨k, rfl⟩ : ∃ q, k = q + 1 := ⟨k - 1, by omega⟩
      have e := hK (k + 1) (by omega)
      simp only at e ⊢
      unfold spec_IsDecomposition.f
      rw [e, Option.bind_some, if_pos rfl, spec_l01In_f, Option.bind_some, decide_eq_true (by omega), if_pos rfl, show ((ps.length : Int) != (bs.length : Int)) = true by simp only [bne_iff_ne, ne_eq]; omega]
      exact bad (fun h => hl h.2.1) k
  · refine ⟨K + 1, fun k hk => ?_⟩
    obtain ⟨k, rfl⟩ : ∃ q, k = q + 1 := ⟨k - 1, by omega⟩
    have e := hK (k + 1) (by omega)
    simp only at e ⊢
    unfold spec_IsDecomposition.f
    rw [e, Option.bind_some, if_pos rfl, spec_l01In_f, Option.bind_some, decide_eq_false (by omega), if_neg (by decide)]
    exact bad (fun h => hm h.1) k
end
theorem isDec_both (s : Int) (l bs ps : List Int) : ∃ r, Ev (fun k => impl_IsDecomposition.f k s l bs ps) r ∧ Ev (fun k => spec_IsDecomposition.f k s l bs ps) r := by
  have h := impl_GraphOk_ev s l
  have h1 := spec_GraphOk_ev s l
  rcases gB_cases s l with ⟨hb, _⟩ | ⟨n, R, hV, rfl, rfl, hb⟩
  · rw [hb] at h h1
    obtain ⟨K, h⟩ := h
    obtain ⟨K1, h1⟩ := h1
    refine ⟨false, ⟨K + 1, fun k hk => ?_⟩, ⟨K1 + 1, fun k hk => ?_⟩⟩
    · have e := h k (by omega)
      obtain ⟨k, rfl⟩ : ∃ q, k = q + 1 := ⟨k - 1, by omega⟩
      simp only at e ⊢
      unfold impl_IsDecomposition.f
      rw [e, Option.bind_some, if_neg (by decide)]
      simp only [impl_IsDecomposition.j0]
      rw [if_pos trivial]
    · have e := h1 k (by omega)
      obtain ⟨k, rfl⟩ : ∃ q, k = q + 1 := ⟨k - 1, by omega⟩
      simp only at e ⊢
      unfold spec_IsDecomposition.f
      rw [e, Option.bind_some, if_neg (by decide)]
      simp only [spec_IsDecomposition.j0]
      rw [if_pos trivial]
  · rw [hb] at h h1
    exact ⟨_, isDec_impl hV h, isDec_spec hV h1⟩
end Go.Proofs.Ytijgmenpekgonaa.P
