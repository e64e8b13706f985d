/- How an argument that is a slice of structs is read: an element's fields, by their offsets. -/
import Derived.Test.YtimhbnlgambcaaaRows
import Derived.ProofKit
import Derived.Deep.Slices
namespace Go.Proofs.Ytimhbnlgambcaaa
open Go.ChangeShapes Go.WideShapes Go.ChangeAt Go.RowKit

section
variable {H : Type} {enc : TypeId × Value → H} {P : Program} {w : World} {base : Nat} {spare : Nat → Bool} {held : Bool}

theorem field_of {t : TypeId} {fs : Array Field} {fuel : Nat} {cs : List Value} {x : DataW H × List MemPlace} (ht : P.underlying t = some (.struct fs)) (h : DataW.trod enc P w base spare held fuel t cs = some x) {j : Nat} {f : Field} (hf : fs[j]? = some f) :
    ∃ n y, DataW.trod enc P w base spare held n f.type ((cs.drop f.offset).take (P.cellsOf f.type)) = some y := by
  obtain ⟨xs, n, _, _, _, hlen, hg⟩ := DataW.trod_struct ht h
  have hj : j < fs.size := (Array.getElem?_eq_some_iff.1 hf).1
  exact ⟨n, xs[j], (hg j f hf).trans (List.getElem?_eq_getElem (by omega))⟩
theorem one_at {cs : List Value} {o n : Nat} {v : Value} (h : (cs.drop o).take n = [v]) : cs[o]? = some v := by
  have h1 : ((cs.drop o).take n)[0]? = some v := by rw [h]; rfl
  rw [List.getElem?_take] at h1
  split at h1
  · simpa using h1
  · cases h1
theorem bool_field {t : TypeId} {fs : Array Field} {fuel : Nat} {cs : List Value} {x : DataW H × List MemPlace} (ht : P.underlying t = some (.struct fs)) (h : DataW.trod enc P w base spare held fuel t cs = some x) {j : Nat} {f : Field} (hf : fs[j]? = some f)
    (hk : P.underlying f.type = some .bool) : ∃ b, cs[f.offset]? = some (.bool b) := by
  obtain ⟨n, y, hy⟩ := field_of ht h hf
  obtain ⟨b, hb, _⟩ := DataW.trod_bool hk hy
  exact ⟨b, one_at hb⟩
theorem int_field {t : TypeId} {fs : Array Field} {fuel : Nat} {cs : List Value} {x : DataW H × List MemPlace} (ht : P.underlying t = some (.struct fs)) (h : DataW.trod enc P w base spare held fuel t cs = some x) {j : Nat} {f : Field} (hf : fs[j]? = some f)
    {k : IntKind} (hk : P.underlying f.type = some (.int k)) : ∃ n, cs[f.offset]? = some (.int k n) ∧ (Lit.int k n).wf = true := by
  obtain ⟨n, y, hy⟩ := field_of ht h hf
  obtain ⟨b, hb, _, hw⟩ := DataW.trod_int hk hy
  exact ⟨b, one_at hb, hw⟩
end

theorem sub_at {cs : List Value} {o n j : Nat} {v : Value} (h : ((cs.drop o).take n)[j]? = some v) : cs[o + j]? = some v := by
  rw [List.getElem?_take] at h
  split at h
  · simpa using h
  · cases h
theorem spot_of {w : World} {a : Addr} {v : Value} (h : w.cell? a = some v) : a.spot = .none := by
  unfold World.cell? at h
  split at h
  · split at h
    · cases h
    · rename_i hs
      simpa using hs
  · cases h
theorem add_at {b o : Nat} (n : Nat) : (⟨b, o, .none⟩ : Addr).add n = ⟨b, o + n, .none⟩ := by
  unfold Addr.add
  split
  · rename_i h
    subst h
    rfl
  · rfl
end Go.Proofs.Ytimhbnlgambcaaa
