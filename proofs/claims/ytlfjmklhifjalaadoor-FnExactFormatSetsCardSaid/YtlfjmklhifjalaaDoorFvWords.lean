/- Words of ours beside the print's: what is asked of a value that is a function of whole numbers, and how a call of it is walked. -/
import Derived.Test.YtlfjmklhifjalaaDoorWMore
namespace Go.Proofs.YtlfjmklhifjalaaDoorW.PrintMore
open Go.RowKit Go.Proofs.YtlfjmklhifjalaaDoorW.PrintWords Go.Proofs.YtlfjmklhifjalaaDoorW.PrintLast

/-- V is a function value; from world w on: called with args it hands back v where 'G args v', and only makes memory. -/
def Fv (P : Program) (w : World) (V : Value) (G : Array Value → Value → Prop) : Prop :=
  ∃ (g : Nat) (pre lb : Array Value) (fn : Func), V = .func (.func g) pre lb ∧ P.funcs[g]? = some fn ∧ (fn.name == "runtime.NumGoroutine") = false ∧ fn.body.isSome = true ∧
    ∀ (W : World) (args : Array Value) (v : Value), Below w.heap.size w W → G args v → Calls P g (pre ++ args ++ lb) W fun e w' => e = .returned v ∧ Below W.heap.size W w'

theorem Fv.later {P : Program} {w W : World} {V : Value} {G : Array Value → Value → Prop} (h : Fv P w V G) (hb : Below w.heap.size w W) : Fv P W V G := by
  obtain ⟨g, pre, lb, fn, h1, h2, h3, h4, h5⟩ := h
  exact ⟨g, pre, lb, fn, h1, h2, h3, h4, fun W' args v hb' hG => h5 W' args v (hb.trans (hb'.mono hb.size)) hG⟩

section
variable {P : Program} {ops : Array Oper} {Q : Exit → Act → World → Prop}

/-- The operation is a call of the value in this place. -/
theorem gate_fv {o : Oper} {rest : List Oper} {a : Act} {W : World} {t : Tmp} {as : Array Operand} {ts : Array TypeId} (_ho : o.op = .call { callee := .value (.tmp t), args := as, argTypes := ts }) (h : wpList P ops Q (o :: rest) a W) : wpList P ops Q (o :: rest) a W := h

theorem Fv.run {w0 w : World} {V : Value} {G : Array Value → Value → Prop} (hF : Fv P w0 V G) (hb : Below w0.heap.size w0 w) {args : Array Value} {v : Value} (hG : G args v) {oi : Oper} {a : Act} {o : Operand} {as : Array Operand} {ts : Array TypeId}
    (hop : oi.op = .call { callee := .value o, args := as, argTypes := ts }) (hv : a.eval o = V) (hargs : as.map a.eval = args) :
    ∃ (g : Nat) (xs : Array Value), (execOp a.eval oi).run P w = .ok (.enter g xs) w ∧ Calls P g xs w fun e w' => e = .returned v ∧ Below w.heap.size w w' := by
  obtain ⟨g, pre, lb, fn, h1, h2, h3, h4, h5⟩ := hF
  refine ⟨g, pre ++ args ++ lb, ?_, h5 w args v hb hG⟩
  have he := enters_ h2 h3 h4 (pre ++ args ++ lb) w
  have hv' : a.eval o = .func (.func g) pre lb := hv.trans h1
  rw [Array.append_assoc] at he
  unfold execOp
  simp only [Array.append_assoc]
  simp [hop, resolve, Deferred.ofValue, invoke, hv', hargs, he]

/-- A call of it in a plain region. -/
theorem goesV_ {rest : List Oper} {oi : Oper} {a : Act} {w w0 : World} (N : Option Tmp) (hd : oi.dst = N) (hg : oi.guard = none) {V : Value} {G : Array Value → Value → Prop} (hF : Fv P w0 V G) (hb : Below w0.heap.size w0 w) (args : Array Value) (v : Value) (hG : G args v)
    {o : Operand} {as : Array Operand} {ts : Array TypeId} (hop : oi.op = .call { callee := .value o, args := as, argTypes := ts }) (hv : a.eval o = V) (hargs : as.map a.eval = args)
    (h : ∀ w', Below w.heap.size w w' → wpList P ops Q rest (a.put N v) w') : wpList P ops Q (oi :: rest) a w := by
  refine wpList_plain hg fun K hK => ?_
  obtain ⟨g, xs, hrun, hc⟩ := hF.run hb hG hop hv hargs
  unfold Oper.wp
  rw [hrun, Oper.upon_enter]
  refine hc.mono fun e w'' hh => ?_
  obtain ⟨rfl, hb'⟩ := hh
  subst hd
  exact hK _ _ (h _ hb')

/-- The same in a region that draws its order. -/
theorem goesVW_ {oi : Oper} {N : Option Tmp} {a : Act} {w w0 : World} {K : Act → World → Prop} {V : Value} {G : Array Value → Value → Prop} (hF : Fv P w0 V G) (hb : Below w0.heap.size w0 w) (args : Array Value) (v : Value) (hG : G args v)
    {o : Operand} {as : Array Operand} {ts : Array TypeId} (hw : Region.wanted oi (yielded ops a.tmps) = true) (hN : oi.dst = N) (hop : oi.op = .call { callee := .value o, args := as, argTypes := ts }) (hv : a.eval o = V) (hargs : as.map a.eval = args)
    (h : ∀ w', Below w.heap.size w w' → K (a.put N v) w') : if Region.wanted oi (yielded ops a.tmps) = true then Oper.wp P oi a w K Q else K (a.put N undef) w := by
  rw [if_pos hw]
  subst hN
  obtain ⟨g, xs, hrun, hc⟩ := hF.run hb hG hop hv hargs
  unfold Oper.wp
  rw [hrun, Oper.upon_enter]
  refine hc.mono fun e w'' hh => ?_
  obtain ⟨rfl, hb'⟩ := hh
  exact h _ hb'
end
/-! ### rows whose spare cells are told, too -/
/-- How many spare cells the laws give a list of n elements. -/
def roomOf (n : Nat) : Nat := if n % 6 = 5 then 0 else if n % 3 = 0 then 1 else n
/-- The list with its spare cells. -/
def spared (xs : List Int) : List Int := xs ++ List.replicate (roomOf xs.length) (-7000000000000000101)
theorem spared_take (xs : List Int) : (spared xs).take xs.length = xs := by simp [spared]
theorem spared_len (xs : List Int) : (spared xs).length = xs.length + roomOf xs.length := by simp [spared]
theorem spared_le (xs : List Int) : xs.length ≤ (spared xs).length := by simp [spared]
namespace Kd
open Go.Proofs.YtlfjmklhifjalaaDoorW.PrintWords.Kd
/-- A row of one's own whose spare cells hold what the laws lay there. -/
def X (d : Kd Int) (e : Nat) (w : World) (base : Nat) (ok : Nat → Prop) (v : Value) (xs : List Int) : Prop :=
  ∃ (A : Option Addr) (c : Nat), v = .slice A xs.length c ∧ d.R e w base ok (.slice A (spared xs).length c) (spared xs)
section
variable {d : Kd Int} {e e' base N g : Nat} {ok ok' : Nat → Prop} {w W w1 : World} {u v : Value} {xs : List Int} {o : Obj}
theorem X_own {A : Option Addr} {n m c : Nat} : (Value.slice A n c).ownBlock = (Value.slice A m c).ownBlock := by cases A <;> rfl
theorem X_R (h : X d e w base ok v xs) : d.R e w base ok v xs := by
  obtain ⟨A, c, rfl, hR⟩ := h
  have hm := R_take (m := xs.length) hR (spared_le xs)
  rwa [spared_take] at hm
theorem X_mono (h : X d e w base ok v xs) (hok : ∀ k, ok k → ok' k) : X d e w base ok' v xs := by
  obtain ⟨A, c, hv, hR⟩ := h
  exact ⟨A, c, hv, R_mono hR hok⟩
theorem X_below (h : X d e w base ok v xs) (hb : Below w.heap.size w w1) : X d e w1 base ok v xs := by
  obtain ⟨A, c, hv, hR⟩ := h
  exact ⟨A, c, hv, R_below hR hb⟩
theorem X_alloc (h : X d e w base ok v xs) (o : Obj) : X d e (w.alloc o) base ok v xs := by
  obtain ⟨A, c, hv, hR⟩ := h
  exact ⟨A, c, hv, R_alloc hR o⟩
theorem X_drew (h : X d e w base ok v xs) : X d e w.drew base ok v xs := by
  obtain ⟨A, c, hv, hR⟩ := h
  exact ⟨A, c, hv, R_drew hR⟩
theorem X_drewN (h : X d e w base ok v xs) (m : Nat) : X d e (w.drewN m) base ok v xs := by
  obtain ⟨A, c, hv, hR⟩ := h
  exact ⟨A, c, hv, R_drewN hR m⟩
theorem X_far (h : X d e w base ok v xs) {p : Addr} (hok : ∀ k, ok k → k ≠ p.block) (u : Value) : X d e (w.setCell p u) base ok v xs := by
  obtain ⟨A, c, hv, hR⟩ := h
  exact ⟨A, c, hv, R_far hR hok u⟩
theorem X_lower {base' : Nat} (h : X d e w base ok v xs) (hb : base' ≤ base) : X d e w base' ok v xs := by
  obtain ⟨A, c, hv, hR⟩ := h
  exact ⟨A, c, hv, R_lower hR hb⟩
theorem X_types (h : X d e w base ok v xs) {g t : Nat} {cells : Array Value} (hb : w.heap[g]? = some (.cells cells t (0, 0))) (ht : ∀ q, q ∈ e :: d.E → q ≠ t) : X d e w base (fun k => ok k ∧ k ≠ g) v xs := by
  obtain ⟨A, c, hv, hR⟩ := h
  exact ⟨A, c, hv, R_types hR hb ht⟩
theorem X_newB (h : X d e w1 w.heap.size ok v xs) (hb : w.heap[g]? = some o) : X d e w1 w.heap.size (fun k => ok k ∧ k ≠ g) v xs := by
  obtain ⟨A, c, hv, hR⟩ := h
  exact ⟨A, c, hv, R_newB hR hb⟩
theorem X_new' (h : X d e w1 W.heap.size ok v xs) (hlt : ∀ k, u.ownBlock = some k → k < W.heap.size) : X d e w1 W.heap.size (fun k => ok k ∧ some k ≠ u.ownBlock) v xs := by
  obtain ⟨A, c, hv, hR⟩ := h
  exact ⟨A, c, hv, R_new' hR hlt⟩
theorem X_elder' (hu : X d e W base ok u xs) (hbase : ∀ k, v.ownBlock = some k → W.heap.size ≤ k) (hb : Below W.heap.size W w1) : X d e w1 base (fun k => ok k ∧ some k ≠ v.ownBlock) u xs := by
  obtain ⟨A, c, hv, hR⟩ := hu
  exact ⟨A, c, hv, R_elder' hR hbase hb⟩
theorem X_old (hu : X d e W base ok u xs) (hb : Below W.heap.size W w1) : X d e w1 base (fun k => ok k ∧ k < W.heap.size) u xs := by
  obtain ⟨A, c, hv, hR⟩ := hu
  exact ⟨A, c, hv, R_old hR hb⟩
theorem X_told (h : X d e w1 base (fun k => ok k ∧ k < N) u xs) (hbase : ∀ k, v.ownBlock = some k → N ≤ k) : X d e w1 base (fun k => (ok k ∧ some k ≠ v.ownBlock) ∧ k < N) u xs := by
  obtain ⟨A, c, hv, hR⟩ := h
  exact ⟨A, c, hv, R_told hR hbase⟩
theorem X_reads' {A : Option Addr} {n c : Nat} (h : X d e w base ok (.slice A n c) xs) : n = xs.length ∧ n ≤ c ∧ d.C w A xs.length xs := R_reads' (X_R h)
theorem X_slice (h : X d e w base ok v xs) : ∃ A c, v = .slice A xs.length c := R_slice (X_R h)
theorem X_base (h : X d e w base ok v xs) : ∀ k, v.ownBlock = some k → base ≤ k := R_base (X_R h)
theorem X_lt (h : X d e w base ok v xs) : ∀ k, v.ownBlock = some k → k < w.heap.size := R_lt (X_R h)
theorem X_typed (h : X d e w base ok v xs) : ∀ k, v.ownBlock = some k → ∃ cells, w.heap[k]? = some (.cells cells e (0, 0)) := R_typed (X_R h)
theorem X_full {A : Option Addr} {n c : Nat} (h : X d e w base ok (.slice A n c) xs) : d.R e w base ok (.slice A (spared xs).length c) (spared xs) := by
  obtain ⟨A', c', hv, hR⟩ := h
  injection hv with h1 h2 h3
  subst h1 h3
  exact hR
end
end Kd
section
variable {P : Program}
/-- A cut up to the capacity. -/
theorem cut_cap (t e : TypeId) (kh : IntKind) {i : TypeInfo} (ht : P.underlying t = some (.slice e)) (hi : P.info? e = some i) (A : Option Addr) (n c : Nat) (j : Int) (h0 : 0 ≤ j) (hm : j ≤ c) :
    ∀ W : World, (Instr.slice t (.slice A n c) none (some (.int kh j)) none).run P W = .ok (.slice A j.toNat c) W := by
  intro W
  have hel : P.elem t = e := by simp [Program.elem, ht]
  have hu : P.underlying t = some (.slice (P.elem t)) := by rw [hel]; exact ht
  have ha : (A.map fun x => x.add 0) = A := by cases A <;> simp [Addr.add]
  rw [run_slice_h W t A n c hu kh j h0 (by omega), hel]
  simp [sizeOf, typeInfo, hi, sliced, Result.andThen, ha]
end
end Go.Proofs.YtlfjmklhifjalaaDoorW.PrintMore
