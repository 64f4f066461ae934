/- A row's record that holds a slice of whole numbers: that slice is no longer than its weight allows. -/
import Derived.Test.YtlfjmklhifjalaaDoorWSized
import Derived.Lib.SmallJoins
namespace Go.Proofs.YtlfjmklhifjalaaDoorW.PrintWords
open Go.ChangeShapes Go.WideShapes
theorem weights_part {H : Type} {P : Program} {ts : List TypeId} {ds : List (DataW H)} {j i : Nat} {t tf : TypeId} {d : DataW H} {parts : List (DataW H)} {fs : Array Field} {y : DataW H} (ht : ts[j]? = some t) (hd : ds[j]? = some d) (hdd : d = .agg parts) (hs : P.underlying t = some (.struct fs)) (hi : (fs.toList.map (·.type))[i]? = some tf) (hp : parts[i]? = some y) :
    ∀ n ∈ y.weights P tf, n ∈ DataW.weightsEach P ts ds := by
  intro n hn
  subst hdd
  refine DataW.weights_mem_each ht hd n ?_
  have e : (DataW.agg parts).weights P t = DataW.weightsEach P (fs.toList.map (·.type)) parts := by simp only [DataW.weights, hs]
  rw [e]
  exact DataW.weights_mem_each hi hp n hn
theorem sized_part {H : Type} {enc : TypeId × Value → H} {P : Program} {W : World} {base : Nat} {spare : Nat → Bool} {held : Bool} {t tf e : TypeId} {k : IntKind} {a : Option Addr} {len cap fuel : Nat} {d : DataW H} {parts : List (DataW H)} {fs : Array Field} {y : DataW H × List MemPlace} {ts : List TypeId} {ds : List (DataW H)} {j i : Nat}
    (hsz : (DataW.weightsEach P ts ds).all (· ≤ reachBytes) = true) (ht : ts[j]? = some t) (hd : ds[j]? = some d) (hdd : d = .agg parts) (hs : P.underlying t = some (.struct fs)) (hi : (fs.toList.map (·.type))[i]? = some tf) (hp : parts[i]? = some y.1) (hu : P.underlying tf = some (.slice e)) (he : P.underlying e = some (.int k)) (hc : P.cellsOf e = 1) {B : Nat} (hB : P.bytesOf e = B)
    (h : DataW.trod enc P W base spare held fuel tf [.slice a len cap] = some y) : len * B ≤ 140737488351232 := by
  rcases open_ints hu he hc h with ⟨hcs, _⟩ | ⟨x, l, c, zs, hcs, _, hl, _, hz, hx, _, _⟩
  · simp at hcs
    obtain ⟨rfl, rfl, rfl⟩ := hcs
    simp
  · simp at hcs
    obtain ⟨rfl, rfl, rfl⟩ := hcs
    subst hx
    have z := List.all_eq_true.1 hsz _ (weights_part ht hd hdd hs hi hp _ (by simp only [DataW.weights, hu]; exact List.mem_cons_self ..))
    rw [hB] at z
    simp only [decide_eq_true_eq] at z
    have hl2 : len ≤ zs.length := by
      rw [hz]
      split
      · exact hl
      · exact Nat.le_refl _
    have h1 : (lits (H := H) k (zs.take len)).length + (lits (H := H) k (zs.drop len)).length = zs.length := by
      simp [lits]
      omega
    rw [h1] at z
    exact Nat.le_trans (Nat.mul_le_mul_right _ hl2) z
theorem sized_part_string {H : Type} {P : Program} {t tf : TypeId} {d : DataW H} {parts : List (DataW H)} {fs : Array Field} {bytes : List UInt8} {ts : List TypeId} {ds : List (DataW H)} {j i : Nat}
    (hsz : (DataW.weightsEach P ts ds).all (· ≤ reachBytes) = true) (ht : ts[j]? = some t) (hd : ds[j]? = some d) (hdd : d = .agg parts) (hs : P.underlying t = some (.struct fs)) (hi : (fs.toList.map (·.type))[i]? = some tf) (hp : parts[i]? = some (.lit (.string bytes))) : bytes.length ≤ 140737488351232 := by
  have z := List.all_eq_true.1 hsz _ (weights_part ht hd hdd hs hi hp bytes.length (by simp [DataW.weights]))
  exact of_decide_eq_true z
end Go.Proofs.YtlfjmklhifjalaaDoorW.PrintWords
