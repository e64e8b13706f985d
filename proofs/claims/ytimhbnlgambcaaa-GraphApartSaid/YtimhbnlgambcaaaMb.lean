/- A map's block read as a function, with its number of entries: look-up, store, delete, len. -/
import Derived.Test.YtimhbnlgambcaaaMa
import Derived.Test.YtimhbnlgambcaaaTF
namespace Go.Proofs.Ytimhbnlgambcaaa
open Go.RowKit
open Go.Maps (Keyed)
open Go.ChangeMaps (setBlock heap_setBlock_same heap_setBlock_other modify_eq_set)
open Go.MapKept

/-- Block b of w is a map of n entries, keyed by type k, which holds just what M says. -/
def MapN (P : Program) (k : TypeId) (w : World) (b n : Nat) (M : Value → Option Value) : Prop :=
  ∃ es clock, w.heap[b]? = some (.map es clock) ∧ es.size = n ∧ (∀ e ∈ es.toList, ∃ l, keyOf P k e.key = some l) ∧ Stamped es clock ∧
    ∀ x v, M x = some v ↔ ∃ e ∈ es.toList, e.key = x ∧ e.val = v

section
variable {P : Program} {k t el : TypeId} {w w' : World} {b n : Nat} {M : Value → Option Value}

theorem MapN.made (P : Program) (k : TypeId) (w : World) : MapN P k (w.alloc (.map #[] 0)) w.heap.size 0 (fun _ => .none) :=
  ⟨#[], 0, (heap_alloc w _).1, rfl, by simp, stamped_empty 0, by simp⟩
theorem MapN.lt (h : MapN P k w b n M) : b < w.heap.size := by
  obtain ⟨es, clock, hb, _⟩ := h
  exact lt_of_block hb
theorem MapN.block (h : MapN P k w b n M) {w' : World} (hw : w'.heap[b]? = w.heap[b]?) : MapN P k w' b n M := by
  obtain ⟨es, clock, hb, r⟩ := h
  exact ⟨es, clock, hw.trans hb, r⟩
theorem MapN.not_cells (h : MapN P k w b n M) {c : Nat} {cs : Array Value} {ty : TypeId} {f : Nat × Nat} (hc : w.heap[c]? = some (.cells cs ty f)) : c ≠ b := by
  intro e
  subst e
  obtain ⟨es, clock, hb, _⟩ := h
  rw [hb] at hc
  cases hc
theorem MapN.kp (h : MapN P k w b n M) {S : Nat → Prop} (hk : Kp S w w') (hS : ¬ S b) : MapN P k w' b n M := h.block (hk.block b h.lt hS)
theorem MapN.alloc (h : MapN P k w b n M) (o : Obj) : MapN P k (w.alloc o) b n M := h.block (Below.heap_alloc _ _ _ h.lt)
theorem MapN.drew (h : MapN P k w b n M) : MapN P k w.drew b n M := h
theorem MapN.drewN (h : MapN P k w b n M) (m : Nat) : MapN P k (w.drewN m) b n M := h
theorem MapN.setCell (h : MapN P k w b n M) (c i : Nat) (v : Value) (hc : c ≠ b) : MapN P k (w.setCell ⟨c, i, .none⟩ v) b n M := h.block (Below.heap_setCell _ _ _ _ (fun e => hc e.symm))

theorem MapN.look (c : Bool) (h : MapN P k w b n M) (K : Keyed P k) (ht : P.underlying t = some (.map k el)) {z : Value} (hz : (zeroValue el).run P w = .ok z w) {key : Value} {kl : Lit} (hkey : keyOf P k key = some kl) :
    (Instr.lookup t (.map (some b)) key c).run P w = .ok (if c then .tuple #[(M key).getD z, .bool (M key).isSome] else (M key).getD z) w := by
  obtain ⟨es, clock, hb, hs, hk, hst, hM⟩ := h
  rcases K.find w hkey es.toList hk with ⟨h1, h2⟩ | ⟨j, e0, h1, h2, h3⟩
  · have : M key = .none := by
      cases e : M key with
      | none => rfl
      | some v =>
        obtain ⟨e0, he0, hk0, _⟩ := (hM key v).1 e
        exact absurd hk0 (h2 e0 he0)
    rw [this]
    simp [Instr.lookup, run_underlying ht, MapKept.run_getObj_map hb, K.check w _ hkey, h1, hz, Result.andThen]
  · have : M key = some e0.val := (hM key e0.val).2 ⟨e0, List.mem_of_getElem? h2, h3, rfl⟩
    rw [this]
    simp [Instr.lookup, run_underlying ht, MapKept.run_getObj_map hb, K.check w _ hkey, h1, Result.andThen]

/-- Only block b has turned. -/
theorem MapN.store (h : MapN P k w b n M) (K : Keyed P k) (ht : P.underlying t = some (.map k el)) {key val : Value} {kl : Lit} (hkey : keyOf P k key = some kl) :
    ∃ o, (Instr.mapUpdate t (.map (some b)) key val).run P w = .ok () (setBlock w b o) ∧ MapN P k (setBlock w b o) b (if (M key).isSome then n else n + 1) (mput M key val) := by
  obtain ⟨es, clock, hb, hs, hk, hst, hM⟩ := h
  rcases K.find w hkey es.toList hk with ⟨h1, h2⟩ | ⟨j, e0, h1, h2, h3⟩
  · have : M key = .none := by
      cases e : M key with
      | none => rfl
      | some v =>
        obtain ⟨e0, he0, hk0, _⟩ := (hM key v).1 e
        exact absurd hk0 (h2 e0 he0)
    refine ⟨.map (es.push ⟨key, val, clock⟩) (clock + 1), ?_, es.push ⟨key, val, clock⟩, clock + 1, heap_setBlock_same hb _, by rw [this]; simp [hs], ?_, stamped_push hst h2, ?_⟩
    · simp [Instr.mapUpdate, run_underlying ht, MapKept.run_getObj_map hb, K.check w false hkey, h1, MapKept.run_setObj_map _ hb, Result.andThen, setBlock]
    · intro e he
      simp only [Array.toList_push, List.mem_append, List.mem_singleton] at he
      rcases he with he | rfl
      · exact hk e he
      · exact ⟨kl, hkey⟩
    · intro x v
      simp only [Array.toList_push, List.mem_append, List.mem_singleton]
      by_cases hx : x = key
      · subst hx
        rw [mput_same]
        constructor
        · intro e; cases e; exact ⟨_, .inr rfl, rfl, rfl⟩
        · rintro ⟨e, he | rfl, hek, hev⟩
          · exact absurd hek (h2 e he)
          · rw [← hev]
      · rw [mput_other _ _ _ _ hx, hM]
        constructor
        · rintro ⟨e, he, r⟩; exact ⟨e, .inl he, r⟩
        · rintro ⟨e, he | rfl, hek, hev⟩
          · exact ⟨e, he, hek, hev⟩
          · exact absurd hek.symm hx
  · have : M key = some e0.val := (hM key e0.val).2 ⟨e0, List.mem_of_getElem? h2, h3, rfl⟩
    have hj : es[j]? = some e0 := by simpa using h2
    have hjl : j < es.toList.length := (List.getElem?_eq_some_iff.1 h2).1
    have hkeyf : ∀ e', es[j]? = some e' → ({ e' with key := key, val := val } : MapEntry).key = e'.key := fun e' he' => by rw [hj] at he'; cases he'; exact h3.symm
    have hlist : (es.modify j (fun e' => { e' with key := key, val := val })).toList = es.toList.set j { e0 with key := key, val := val } := by rw [Array.toList_modify, modify_eq_set _ _ _ _ h2]
    have hst' := stamped_modify hst j (fun e' => { e' with key := key, val := val }) (fun _ _ => rfl) (fun e' _ he' => hkeyf e' he')
    refine ⟨.map (es.modify j (fun e' => { e' with key := key, val := val })) clock, ?_, es.modify j (fun e' => { e' with key := key, val := val }), clock, heap_setBlock_same hb _, by rw [this]; simp [hs], ?_, hst', ?_⟩
    · simp [Instr.mapUpdate, run_underlying ht, MapKept.run_getObj_map hb, K.check w false hkey, h1, hj, h3, K.stays w hkey, MapKept.run_setObj_map _ hb, Result.andThen, setBlock]
    · intro e he
      rw [hlist] at he
      rcases List.mem_or_eq_of_mem_set he with he | rfl
      · exact hk e he
      · exact ⟨kl, hkey⟩
    · have hnew : ({ e0 with key := key, val := val } : MapEntry) ∈ (es.modify j (fun e' => { e' with key := key, val := val })).toList := by
        rw [hlist]
        exact List.mem_iff_getElem.2 ⟨j, by simpa using hjl, by simp⟩
      intro x v
      by_cases hx : x = key
      · subst hx
        rw [mput_same]
        constructor
        · intro e; cases e; exact ⟨_, hnew, rfl, rfl⟩
        · rintro ⟨e, he, hek, hev⟩
          have := stamped_key hst' he hnew hek
          rw [← hev, this]
      · rw [mput_other _ _ _ _ hx, hM]
        constructor
        · rintro ⟨e, he, hek, hev⟩
          refine ⟨e, ?_, hek, hev⟩
          rw [hlist]
          obtain ⟨i, hi, rfl⟩ := List.getElem_of_mem he
          have hij : j ≠ i := by
            intro e1
            subst e1
            have e2 : es.toList[j]? = some es.toList[j] := List.getElem?_eq_getElem hi
            rw [h2] at e2
            cases e2
            exact hx (hek.symm.trans h3)
          exact List.mem_iff_getElem.2 ⟨i, by simpa using hi, by rw [List.getElem_set_ne hij]⟩
        · rintro ⟨e, he, hek, hev⟩
          rw [hlist] at he
          rcases List.mem_or_eq_of_mem_set he with he | rfl
          · exact ⟨e, he, hek, hev⟩
          · exact absurd hek.symm hx

theorem MapN.drop {ty : TypeId} (h : MapN P k w b n M) (K : Keyed P k) (ht : P.underlying t = some (.map k el)) {key : Value} {kl : Lit} (hkey : keyOf P k key = some kl) :
    ∃ o, (Builtin.delete_ #[t, k] ty #[.map (some b), key]).run P w = .ok (.tuple #[]) (setBlock w b o) ∧ MapN P k (setBlock w b o) b (if (M key).isSome then n - 1 else n) (mdel M key) := by
  obtain ⟨es, clock, hb, hs, hk, hst, hM⟩ := h
  rcases K.find w hkey es.toList hk with ⟨h1, h2⟩ | ⟨j, e0, h1, h2, h3⟩
  · have : M key = .none := by
      cases e : M key with
      | none => rfl
      | some v =>
        obtain ⟨e0, he0, hk0, _⟩ := (hM key v).1 e
        exact absurd hk0 (h2 e0 he0)
    refine ⟨.map es clock, ?_, es, clock, heap_setBlock_same hb _, by rw [this]; simp [hs], hk, hst, ?_⟩
    · simp [Builtin.delete_, run_underlying ht, MapKept.run_getObj_map hb, K.check w _ hkey, h1, MapKept.run_setObj_map _ hb, Result.andThen, setBlock]
    · intro x v
      by_cases hx : x = key
      · subst hx
        rw [mdel_same]
        simp only [reduceCtorEq, false_iff, not_exists, not_and]
        intro e he hek
        exact absurd hek (h2 e he)
      · rw [mdel_other _ _ _ hx, hM]
  · have : M key = some e0.val := (hM key e0.val).2 ⟨e0, List.mem_of_getElem? h2, h3, rfl⟩
    have hjl : j < es.toList.length := (List.getElem?_eq_some_iff.1 h2).1
    have hjs : j < es.size := by simpa using hjl
    have hsub : (es.eraseIdxIfInBounds j).toList = es.toList.eraseIdx j := by
      unfold Array.eraseIdxIfInBounds
      rw [dif_pos hjs]
      simp
    refine ⟨.map (es.eraseIdxIfInBounds j) clock, ?_, es.eraseIdxIfInBounds j, clock, heap_setBlock_same hb _, by rw [this, ← hs]; simp [Array.eraseIdxIfInBounds, hjs], ?_, stamped_erase hst j, ?_⟩
    · simp [Builtin.delete_, run_underlying ht, MapKept.run_getObj_map hb, K.check w _ hkey, h1, MapKept.run_setObj_map _ hb, Result.andThen, setBlock]
    · intro e he
      rw [hsub] at he
      exact hk e ((List.eraseIdx_sublist _ _).subset he)
    · intro x v
      rw [hsub]
      by_cases hx : x = key
      · subst hx
        rw [mdel_same]
        simp only [reduceCtorEq, false_iff, not_exists, not_and]
        intro e he hek _
        obtain ⟨i, hne, hi⟩ := List.mem_eraseIdx_iff_getElem?.1 he
        exact hne (stamped_at hst hi h2 (hek.trans h3.symm))
      · rw [mdel_other _ _ _ hx, hM]
        constructor
        · rintro ⟨e, he, hek, hev⟩
          refine ⟨e, ?_, hek, hev⟩
          obtain ⟨i, hi, rfl⟩ := List.getElem_of_mem he
          refine List.mem_eraseIdx_iff_getElem?.2 ⟨i, ?_, List.getElem?_eq_getElem hi⟩
          intro e1
          subst e1
          have e2 : es.toList[i]? = some es.toList[i] := List.getElem?_eq_getElem hi
          rw [h2] at e2
          cases e2
          exact hx (hek.symm.trans h3)
        · rintro ⟨e, he, hek, hev⟩
          exact ⟨e, (List.eraseIdx_sublist _ _).subset he, hek, hev⟩


/-- 'len(m)'. -/
theorem MapN.len {ty : TypeId} (h : MapN P k w b n M) (ht : P.underlying t = some (.map k el)) : (Builtin.len_ #[t] ty #[.map (some b)]).run P w = .ok (.int .i64 n) w := by
  obtain ⟨es, clock, hb, hs, _⟩ := h
  simp [Builtin.len_, run_underlying ht, MapKept.run_getObj_map hb, goInt, Result.andThen, hs]
end

section
variable {P : Program} {k t el : TypeId} {w : World} {b n : Nat} {M : Value → Option Value}
/-- 'm[key] = val' at the operation. -/
theorem wpList_store_n {ops : Array Oper} {rest : List Oper} {o : Oper} {a : Act} {Q : Exit → Act → World → Prop} (hg : o.guard = .none) (m x v : Operand) (hop : o.op = .mapUpdate t m x v)
    (K : Keyed P k) (ht : P.underlying t = some (.map k el)) (hm : a.eval m = .map (some b)) (hM : MapN P k w b n M) (key val : Value) (kl : Lit) (hkey : keyOf P k key = some kl) (hx : a.eval x = key) (hv : a.eval v = val)
    (hK : ∀ w', MapN P k w' b (if (M key).isSome then n else n + 1) (mput M key val) → Only b w w' → wpList P ops Q rest (a.put o.dst undef) w') : wpList P ops Q (o :: rest) a w := by
  obtain ⟨ob, hrun, h3⟩ := hM.store (val := val) K ht hkey
  refine wpList_plain hg fun K' hK' => ?_
  unfold Oper.wp
  simp [execOp, hop, hm, hx, hv, hrun, Result.andThen]
  exact hK' _ _ (hK _ h3 (Only.of_setBlock b w ob))
/-- 'delete(m, key)' at the operation. -/
theorem wpList_delete_n {ops : Array Oper} {rest : List Oper} {o : Oper} {a : Act} {Q : Exit → Act → World → Prop} (hg : o.guard = .none) (m x : Operand) (hop : o.op = .call ⟨.builtin .delete, #[m, x], #[t, k]⟩)
    (K : Keyed P k) (ht : P.underlying t = some (.map k el)) (hm : a.eval m = .map (some b)) (hM : MapN P k w b n M) (key : Value) (kl : Lit) (hkey : keyOf P k key = some kl) (hx : a.eval x = key)
    (hK : ∀ w', MapN P k w' b (if (M key).isSome then n - 1 else n) (mdel M key) → Only b w w' → wpList P ops Q rest (a.put o.dst (.tuple #[])) w') : wpList P ops Q (o :: rest) a w := by
  obtain ⟨ob, hrun, h3⟩ := hM.drop (ty := o.type) K ht hkey
  refine wpList_plain hg fun K' hK' => ?_
  unfold Oper.wp
  simp [execOp, hop, resolve, invoke, builtin, hm, hx, hrun, Result.andThen]
  exact hK' _ _ (hK _ h3 (Only.of_setBlock b w ob))
end
end Go.Proofs.Ytimhbnlgambcaaa
