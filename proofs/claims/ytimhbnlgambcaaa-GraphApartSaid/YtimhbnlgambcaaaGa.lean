/- Maps from plain keys: words and laws for any key and element type. -/
import Derived.Test.YtimhbnlgambcaaaMb
namespace Go.Proofs.Ytimhbnlgambcaaa
open Go.RowKit
open Go.Maps (Keyed)
open Go.ChangeMaps (setBlock)

/-- Block b is a map of n entries that says F, keys and elements written as enc and val write them. -/
def MapE {α β : Type} (k : TypeId) (enc : α → Value) (val : β → Value) (w : World) (b n : Nat) (F : α → Option β) : Prop :=
  ∃ M, MapN Try.prog k w b n M ∧ ∀ x, M (enc x) = (F x).map val

noncomputable def eput {α β : Type} (F : α → Option β) (x : α) (v : β) : α → Option β := fun y => @ite _ (y = x) (Classical.propDecidable _) (some v) (F y)
noncomputable def edel {α β : Type} (F : α → Option β) (x : α) : α → Option β := fun y => @ite _ (y = x) (Classical.propDecidable _) .none (F y)
section
variable {α β : Type} {k t el : TypeId} {enc : α → Value} {val : β → Value} {w w' : World} {b n : Nat} {F : α → Option β}
theorem eput_same (F : α → Option β) (x : α) (v : β) : eput F x v x = some v := by simp [eput]
theorem eput_other (F : α → Option β) (x y : α) (v : β) (h : y ≠ x) : eput F x v y = F y := by simp [eput, h]
theorem edel_same (F : α → Option β) (x : α) : edel F x x = .none := by simp [edel]
theorem edel_other (F : α → Option β) (x y : α) (h : y ≠ x) : edel F x y = F y := by simp [edel, h]
theorem MapE.made (w : World) : MapE (α := α) (β := β) k enc val (w.alloc (.map #[] 0)) w.heap.size 0 (fun _ => .none) := ⟨_, MapN.made _ _ _, fun _ => rfl⟩
theorem MapE.block (h : MapE k enc val w b n F) (hw : w'.heap[b]? = w.heap[b]?) : MapE k enc val w' b n F := by
  obtain ⟨M, h1, h2⟩ := h
  exact ⟨M, h1.block hw, h2⟩
theorem MapE.lt (h : MapE k enc val w b n F) : b < w.heap.size := by obtain ⟨M, h1, _⟩ := h; exact h1.lt
theorem MapE.ne (h : MapE k enc val w b n F) {c : Nat} {cs : Array Value} {ty : TypeId} {f : Nat × Nat} (hc : w.heap[c]? = some (.cells cs ty f)) : c ≠ b := by obtain ⟨M, h1, _⟩ := h; exact h1.not_cells hc
theorem MapE.kp (h : MapE k enc val w b n F) {S : Nat → Prop} (hk : Kp S w w') (hS : ¬ S b) : MapE k enc val w' b n F := h.block (hk.block b h.lt hS)
theorem MapE.drewN (h : MapE k enc val w b n F) (m : Nat) : MapE k enc val (w.drewN m) b n F := h
theorem MapE.look (h : MapE k enc val w b n F) (c : Bool) (K : Keyed Try.prog k) (ht : Try.prog.underlying t = some (.map k el)) {z : Value} (hz : ∀ w, (zeroValue el).run Try.prog w = .ok z w) (x : α) {kl : Lit} (hkey : keyOf Try.prog k (enc x) = some kl) (m : Nat) :
    (Instr.lookup t (.map (some b)) (enc x) c).run Try.prog (w.drewN m) = .ok (if c then .tuple #[((F x).map val).getD z, .bool (F x).isSome] else ((F x).map val).getD z) (w.drewN m) := by
  obtain ⟨M, h1, h2⟩ := h
  rw [(h1.drewN m).look c K ht (hz _) hkey, h2]
  simp
theorem MapE.len (h : MapE k enc val w b n F) (ht : Try.prog.underlying t = some (.map k el)) (ty : TypeId) (m : Nat) : (Builtin.len_ #[t] ty #[.map (some b)]).run Try.prog (w.drewN m) = .ok (.int .i64 n) (w.drewN m) := by
  obtain ⟨M, h1, h2⟩ := h
  exact (h1.drewN m).len ht
theorem wpList_store_e {ops : Array Oper} {rest : List Oper} {o : Oper} {a : Act} {Q : Exit → Act → World → Prop} (hg : o.guard = .none) (m x v : Operand) (hop : o.op = .mapUpdate t m x v)
    (K : Keyed Try.prog k) (ht : Try.prog.underlying t = some (.map k el)) (inj : ∀ x y, enc x = enc y → x = y) (hm : a.eval m = .map (some b)) (hM : MapE k enc val w b n F) (key : α) (u : β) (kl : Lit) (hkey : keyOf Try.prog k (enc key) = some kl)
    (hx : a.eval x = enc key) (hv : a.eval v = val u)
    (hK : ∀ w', MapE k enc val w' b (if (F key).isSome then n else n + 1) (eput F key u) → Only b w w' → wpList Try.prog ops Q rest (a.put o.dst undef) w') : wpList Try.prog ops Q (o :: rest) a w := by
  obtain ⟨M, h1, h2⟩ := hM
  refine wpList_store_n hg m x v hop K ht hm h1 _ _ kl hkey hx hv ?_
  intro w' h3 ho
  have e : (M (enc key)).isSome = (F key).isSome := by rw [h2]; simp
  rw [e] at h3
  refine hK w' ⟨_, h3, fun y => ?_⟩ ho
  by_cases e : y = key
  · subst e; simp [mput_same, eput_same]
  · rw [mput_other _ _ _ _ (fun e' => e (inj _ _ e')), h2, eput_other _ _ _ _ e]
theorem wpList_delete_e {ops : Array Oper} {rest : List Oper} {o : Oper} {a : Act} {Q : Exit → Act → World → Prop} (hg : o.guard = .none) (m x : Operand) (hop : o.op = .call ⟨.builtin .delete, #[m, x], #[t, k]⟩)
    (K : Keyed Try.prog k) (ht : Try.prog.underlying t = some (.map k el)) (inj : ∀ x y, enc x = enc y → x = y) (hm : a.eval m = .map (some b)) (hM : MapE k enc val w b n F) (key : α) (kl : Lit) (hkey : keyOf Try.prog k (enc key) = some kl)
    (hx : a.eval x = enc key)
    (hK : ∀ w', MapE k enc val w' b (if (F key).isSome then n - 1 else n) (edel F key) → Only b w w' → wpList Try.prog ops Q rest (a.put o.dst (.tuple #[])) w') : wpList Try.prog ops Q (o :: rest) a w := by
  obtain ⟨M, h1, h2⟩ := hM
  refine wpList_delete_n hg m x hop K ht hm h1 _ kl hkey hx ?_
  intro w' h3 ho
  have e : (M (enc key)).isSome = (F key).isSome := by rw [h2]; simp
  rw [e] at h3
  refine hK w' ⟨_, h3, fun y => ?_⟩ ho
  by_cases e : y = key
  · subst e; simp [mdel_same, edel_same]
  · rw [mdel_other _ _ _ (fun e' => e (inj _ _ e')), h2, edel_other _ _ _ e]
end
end Go.Proofs.Ytimhbnlgambcaaa
