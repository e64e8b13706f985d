/- A map's block read as a function from keys to elements: look-up, store, delete, and the same at the operation of a walk. -/
import Derived.Maps.OwnSet
import Derived.WalkKit
import Derived.DeepKeys5
namespace Go.Proofs.Ytimhbnlgambcaaa
open Go.RowKit
open Go.Maps (Keyed)
open Go.ChangeMaps (setBlock heap_setBlock_same heap_setBlock_other modify_eq_set)
open Go.MapKept

/-- Block b of w is a map of at most n entries, keyed by type k, which holds just what M says. -/
def MapIs (P : Program) (k : TypeId) (w : World) (b n : Nat) (M : Value → Option Value) : Prop :=
  ∃ es clock, w.heap[b]? = some (.map es clock) ∧ es.size ≤ n ∧ (∀ e ∈ es.toList, ∃ l, keyOf P k e.key = some l) ∧ Stamped es clock ∧
    ∀ x v, M x = some v ↔ ∃ e ∈ es.toList, e.key = x ∧ e.val = v

section
variable {P : Program} {k t el : TypeId} {w : World} {b n : Nat} {M : Value → Option Value}

theorem MapIs.made (P : Program) (k : TypeId) (w : World) : MapIs P k (w.alloc (.map #[] 0)) w.heap.size 0 (fun _ => .none) :=
  ⟨#[], 0, (heap_alloc w _).1, Nat.le_refl _, by simp, stamped_empty 0, by simp⟩
theorem MapIs.lt (h : MapIs P k w b n M) : b < w.heap.size := by
  obtain ⟨es, clock, hb, _⟩ := h
  exact lt_of_block hb
theorem MapIs.mono (h : MapIs P k w b n M) {n' : Nat} (hn : n ≤ n') : MapIs P k w b n' M := by
  obtain ⟨es, clock, hb, hs, r⟩ := h
  exact ⟨es, clock, hb, Nat.le_trans hs hn, r⟩
theorem MapIs.block (h : MapIs P k w b n M) {w' : World} (hw : w'.heap[b]? = w.heap[b]?) : MapIs P k w' b n M := by
  obtain ⟨es, clock, hb, r⟩ := h
  exact ⟨es, clock, hw.trans hb, r⟩
theorem MapIs.not_cells (h : MapIs P k w b n M) {c : Nat} {cs : Array Value} {ty : TypeId} {f : Nat × Nat} (hc : w.heap[c]? = some (.cells cs ty f)) : c ≠ b := by
  intro e
  subst e
  obtain ⟨es, clock, hb, _⟩ := h
  rw [hb] at hc
  cases hc

theorem stamped_at {es : Array MapEntry} {clock : Nat} (h : Stamped es clock) {i j : Nat} {e e' : MapEntry} (hi : es.toList[i]? = some e) (hj : es.toList[j]? = some e') (hk : e.key = e'.key) : i = j := by
  have h3 := ((stamped_iff es clock).1 h).2.2
  rw [List.pairwise_iff_getElem] at h3
  obtain ⟨hi1, hi2⟩ := List.getElem?_eq_some_iff.1 hi
  obtain ⟨hj1, hj2⟩ := List.getElem?_eq_some_iff.1 hj
  rcases Nat.lt_trichotomy i j with hlt | heq | hgt
  · have := h3 i j hi1 hj1 hlt
    rw [hi2, hj2] at this
    exact absurd hk this
  · exact heq
  · have := h3 j i hj1 hi1 hgt
    rw [hi2, hj2] at this
    exact absurd hk.symm this

theorem stamped_key {es : Array MapEntry} {clock : Nat} (h : Stamped es clock) {e e' : MapEntry} (he : e ∈ es.toList) (he' : e' ∈ es.toList) (hk : e.key = e'.key) : e = e' := by
  obtain ⟨i, hi⟩ := List.mem_iff_getElem?.1 he
  obtain ⟨j, hj⟩ := List.mem_iff_getElem?.1 he'
  obtain rfl := stamped_at h hi hj hk
  rw [hi] at hj
  exact Option.some.inj hj

theorem MapIs.look (c : Bool) (h : MapIs P k w b n M) (K : Keyed P k) (ht : P.underlying t = some (.map k el)) {z : Value} (hz : (zeroValue el).run P w = .ok z w) {key : Value} {kl : Lit} (hkey : keyOf P k key = some kl) :
    (Instr.lookup t (.map (some b)) key c).run P w = .ok (if c then .tuple #[(M key).getD z, .bool (M key).isSome] else (M key).getD z) w := by
  obtain ⟨es, clock, hb, hs, hk, hst, hM⟩ := h
  rcases K.find w hkey es.toList hk with ⟨h1, h2⟩ | ⟨j, e0, h1, h2, h3⟩
  · have : M key = .none := by
      cases e : M key with
      | none => rfl
      | some v =>
        obtain ⟨e0, he0, hk0, _⟩ := (hM key v).1 e
        exact absurd hk0 (h2 e0 he0)
    rw [this]
    simp [Instr.lookup, run_underlying ht, MapKept.run_getObj_map hb, K.check w _ hkey, h1, hz, Result.andThen]
  · have : M key = some e0.val := (hM key e0.val).2 ⟨e0, List.mem_of_getElem? h2, h3, rfl⟩
    rw [this]
    simp [Instr.lookup, run_underlying ht, MapKept.run_getObj_map hb, K.check w _ hkey, h1, Result.andThen]

/-- The map behind a store. -/
noncomputable def mput (M : Value → Option Value) (key val : Value) : Value → Option Value := fun x => @ite _ (x = key) (Classical.propDecidable _) (some val) (M x)
noncomputable def mdel (M : Value → Option Value) (key : Value) : Value → Option Value := fun x => @ite _ (x = key) (Classical.propDecidable _) .none (M x)
theorem mput_same (M : Value → Option Value) (key val : Value) : mput M key val key = some val := by simp [mput]
theorem mput_other (M : Value → Option Value) (key val x : Value) (h : x ≠ key) : mput M key val x = M x := by simp [mput, h]
theorem mdel_same (M : Value → Option Value) (key : Value) : mdel M key key = .none := by simp [mdel]
theorem mdel_other (M : Value → Option Value) (key x : Value) (h : x ≠ key) : mdel M key x = M x := by simp [mdel, h]

/-- Only block b has turned. -/
theorem MapIs.store (h : MapIs P k w b n M) (K : Keyed P k) (ht : P.underlying t = some (.map k el)) {key val : Value} {kl : Lit} (hkey : keyOf P k key = some kl) :
    ∃ o, (Instr.mapUpdate t (.map (some b)) key val).run P w = .ok () (setBlock w b o) ∧ MapIs P k (setBlock w b o) b (n + 1) (mput M key val) := by
  obtain ⟨es, clock, hb, hs, hk, hst, hM⟩ := h
  rcases K.find w hkey es.toList hk with ⟨h1, h2⟩ | ⟨j, e0, h1, h2, h3⟩
  · refine ⟨.map (es.push ⟨key, val, clock⟩) (clock + 1), ?_, es.push ⟨key, val, clock⟩, clock + 1, heap_setBlock_same hb _, by simp; omega, ?_, stamped_push hst h2, ?_⟩
    · simp [Instr.mapUpdate, run_underlying ht, MapKept.run_getObj_map hb, K.check w false hkey, h1, MapKept.run_setObj_map _ hb, Result.andThen, setBlock]
    · intro e he
      simp only [Array.toList_push, List.mem_append, List.mem_singleton] at he
      rcases he with he | rfl
      · exact hk e he
      · exact ⟨kl, hkey⟩
    · intro x v
      simp only [Array.toList_push, List.mem_append, List.mem_singleton]
      by_cases hx : x = key
      · subst hx
        rw [mput_same]
        constructor
        · intro e; cases e; exact ⟨_, .inr rfl, rfl, rfl⟩
        · rintro ⟨e, he | rfl, hek, hev⟩
          · exact absurd hek (h2 e he)
          · rw [← hev]
      · rw [mput_other _ _ _ _ hx, hM]
        constructor
        · rintro ⟨e, he, r⟩; exact ⟨e, .inl he, r⟩
        · rintro ⟨e, he | rfl, hek, hev⟩
          · exact ⟨e, he, hek, hev⟩
          · exact absurd hek.symm hx
  · have hj : es[j]? = some e0 := by simpa using h2
    have hjl : j < es.toList.length := (List.getElem?_eq_some_iff.1 h2).1
    have hkeyf : ∀ e', es[j]? = some e' → ({ e' with key := key, val := val } : MapEntry).key = e'.key := fun e' he' => by rw [hj] at he'; cases he'; exact h3.symm
    have hlist : (es.modify j (fun e' => { e' with key := key, val := val })).toList = es.toList.set j { e0 with key := key, val := val } := by rw [Array.toList_modify, modify_eq_set _ _ _ _ h2]
    have hst' := stamped_modify hst j (fun e' => { e' with key := key, val := val }) (fun _ _ => rfl) (fun e' _ he' => hkeyf e' he')
    refine ⟨.map (es.modify j (fun e' => { e' with key := key, val := val })) clock, ?_, es.modify j (fun e' => { e' with key := key, val := val }), clock, heap_setBlock_same hb _, by simp; omega, ?_, hst', ?_⟩
    · simp [Instr.mapUpdate, run_underlying ht, MapKept.run_getObj_map hb, K.check w false hkey, h1, hj, h3, K.stays w hkey, MapKept.run_setObj_map _ hb, Result.andThen, setBlock]
    · intro e he
      rw [hlist] at he
      rcases List.mem_or_eq_of_mem_set he with he | rfl
      · exact hk e he
      · exact ⟨kl, hkey⟩
    · have hnew : ({ e0 with key := key, val := val } : MapEntry) ∈ (es.modify j (fun e' => { e' with key := key, val := val })).toList := by
        rw [hlist]
        exact List.mem_iff_getElem.2 ⟨j, by simpa using hjl, by simp⟩
      intro x v
      by_cases hx : x = key
      · subst hx
        rw [mput_same]
        constructor
        · intro e; cases e; exact ⟨_, hnew, rfl, rfl⟩
        · rintro ⟨e, he, hek, hev⟩
          have := stamped_key hst' he hnew hek
          rw [← hev, this]
      · rw [mput_other _ _ _ _ hx, hM]
        constructor
        · rintro ⟨e, he, hek, hev⟩
          refine ⟨e, ?_, hek, hev⟩
          rw [hlist]
          obtain ⟨i, hi, rfl⟩ := List.getElem_of_mem he
          have hij : j ≠ i := by
            intro e1
            subst e1
            have e2 : es.toList[j]? = some es.toList[j] := List.getElem?_eq_getElem hi
            rw [h2] at e2
            cases e2
            exact hx (hek.symm.trans h3)
          exact List.mem_iff_getElem.2 ⟨i, by simpa using hi, by rw [List.getElem_set_ne hij]⟩
        · rintro ⟨e, he, hek, hev⟩
          rw [hlist] at he
          rcases List.mem_or_eq_of_mem_set he with he | rfl
          · exact ⟨e, he, hek, hev⟩
          · exact absurd hek.symm hx

theorem MapIs.drop {ty : TypeId} (h : MapIs P k w b n M) (K : Keyed P k) (ht : P.underlying t = some (.map k el)) {key : Value} {kl : Lit} (hkey : keyOf P k key = some kl) :
    ∃ o, (Builtin.delete_ #[t, k] ty #[.map (some b), key]).run P w = .ok (.tuple #[]) (setBlock w b o) ∧ MapIs P k (setBlock w b o) b n (mdel M key) := by
  obtain ⟨es, clock, hb, hs, hk, hst, hM⟩ := h
  rcases K.find w hkey es.toList hk with ⟨h1, h2⟩ | ⟨j, e0, h1, h2, h3⟩
  · refine ⟨.map es clock, ?_, es, clock, heap_setBlock_same hb _, hs, hk, hst, ?_⟩
    · simp [Builtin.delete_, run_underlying ht, MapKept.run_getObj_map hb, K.check w _ hkey, h1, MapKept.run_setObj_map _ hb, Result.andThen, setBlock]
    · intro x v
      by_cases hx : x = key
      · subst hx
        rw [mdel_same]
        simp only [reduceCtorEq, false_iff, not_exists, not_and]
        intro e he hek
        exact absurd hek (h2 e he)
      · rw [mdel_other _ _ _ hx, hM]
  · have hjl : j < es.toList.length := (List.getElem?_eq_some_iff.1 h2).1
    have hjs : j < es.size := by simpa using hjl
    have hsub : (es.eraseIdxIfInBounds j).toList = es.toList.eraseIdx j := by
      unfold Array.eraseIdxIfInBounds
      rw [dif_pos hjs]
      simp
    refine ⟨.map (es.eraseIdxIfInBounds j) clock, ?_, es.eraseIdxIfInBounds j, clock, heap_setBlock_same hb _, Nat.le_trans (MapFrom.size_erase es j) hs, ?_, stamped_erase hst j, ?_⟩
    · simp [Builtin.delete_, run_underlying ht, MapKept.run_getObj_map hb, K.check w _ hkey, h1, MapKept.run_setObj_map _ hb, Result.andThen, setBlock]
    · intro e he
      rw [hsub] at he
      exact hk e ((List.eraseIdx_sublist _ _).subset he)
    · intro x v
      rw [hsub]
      by_cases hx : x = key
      · subst hx
        rw [mdel_same]
        simp only [reduceCtorEq, false_iff, not_exists, not_and]
        intro e he hek _
        obtain ⟨i, hne, hi⟩ := List.mem_eraseIdx_iff_getElem?.1 he
        exact hne (stamped_at hst hi h2 (hek.trans h3.symm))
      · rw [mdel_other _ _ _ hx, hM]
        constructor
        · rintro ⟨e, he, hek, hev⟩
          refine ⟨e, ?_, hek, hev⟩
          obtain ⟨i, hi, rfl⟩ := List.getElem_of_mem he
          refine List.mem_eraseIdx_iff_getElem?.2 ⟨i, ?_, List.getElem?_eq_getElem hi⟩
          intro e1
          subst e1
          have e2 : es.toList[i]? = some es.toList[i] := List.getElem?_eq_getElem hi
          rw [h2] at e2
          cases e2
          exact hx (hek.symm.trans h3)
        · rintro ⟨e, he, hek, hev⟩
          exact ⟨e, (List.eraseIdx_sublist _ _).subset he, hek, hev⟩

end

end Go.Proofs.Ytimhbnlgambcaaa
