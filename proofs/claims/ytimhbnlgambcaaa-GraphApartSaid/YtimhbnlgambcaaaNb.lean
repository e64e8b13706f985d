/- The words of a list's memory (its struct, links as blocks, its map); the walks of New, Len, Has, end, Peek. -/
import Derived.Test.YtimhbnlgambcaaaNa
import Derived.Test.YtimhbnlgambcaaaMb
import Derived.Test.YtimhbnlgambcaaaTG
import Derived.Test.YtimhbnlgambcaaaRc
namespace Go.Proofs.Ytimhbnlgambcaaa
open Go.RowKit Go.BigFrame
open Go.Maps (Keyed)
open Go.ChangeMaps (setBlock)

def Lk.cells (x : Lk) : Array Value := #[.int .i64 x.s, .int .u64 x.g, .pointer (adr x.bk), .pointer (adr x.fr)]
def LkAt (w : World) (b : Nat) (x : Lk) : Prop := w.heap[b]? = some (.cells x.cells 138 (0, 0))
section
variable {w : World} {b : Nat} {x : Lk}
theorem LkAt.c0 (h : LkAt w b x) : w.cell? ⟨b, 0, .none⟩ = some (.int .i64 x.s) := by simp [World.cell?, show w.heap[b]? = _ from h, Lk.cells]
theorem LkAt.c1 (h : LkAt w b x) : w.cell? ⟨b, 1, .none⟩ = some (.int .u64 x.g) := by simp [World.cell?, show w.heap[b]? = _ from h, Lk.cells]
theorem LkAt.c2 (h : LkAt w b x) : w.cell? ⟨b, 2, .none⟩ = some (.pointer (adr x.bk)) := by simp [World.cell?, show w.heap[b]? = _ from h, Lk.cells]
theorem LkAt.c3 (h : LkAt w b x) : w.cell? ⟨b, 3, .none⟩ = some (.pointer (adr x.fr)) := by simp [World.cell?, show w.heap[b]? = _ from h, Lk.cells]
theorem LkAt.fz (h : LkAt w b x) (i : Nat) : w.frozen? ⟨b, i, .none⟩ = false := by simp [World.frozen?, show w.heap[b]? = _ from h]
theorem LkAt.lt (h : LkAt w b x) : b < w.heap.size := lt_of_block h
end
def LLies (w : World) (H : LHp) : Prop := ∀ b x, H b = some x → LkAt w b x
section
variable {w w' : World} {H : LHp}
theorem LLies.set (h : LLies w H) (b i : Nat) (v : Value) (f : Lk → Lk) (hf : ∀ x, H b = some x → (f x).cells = x.cells.setIfInBounds i v) : LLies (w.setCell ⟨b, i, .none⟩ v) (updL H b f) := by
  intro k x hx
  by_cases e : k = b
  · subst e
    rw [updL_same] at hx
    cases hk : H k with
    | none => simp [hk] at hx
    | some X =>
      simp [hk] at hx
      subst hx
      have := heap_setCell_self (h k X hk) i v
      rw [← hf X hk] at this
      exact this
  · rw [updL_other _ _ _ _ e] at hx
    exact (Below.heap_setCell w ⟨b, i, .none⟩ v k e).trans (h k x hx)
theorem LLies.bk (h : LLies w H) (b : Nat) (p : Option Nat) : LLies (w.setCell ⟨b, 2, .none⟩ (.pointer (adr p))) (updL H b (·.setBk p)) := h.set b _ _ _ (fun _ _ => rfl)
theorem LLies.fr (h : LLies w H) (b : Nat) (p : Option Nat) : LLies (w.setCell ⟨b, 3, .none⟩ (.pointer (adr p))) (updL H b (·.setFr p)) := h.set b _ _ _ (fun _ _ => rfl)
theorem LLies.other (h : LLies w H) (b i : Nat) (v : Value) (hb : ∀ k x, H k = some x → k ≠ b) : LLies (w.setCell ⟨b, i, .none⟩ v) H := fun k x hx => (Below.heap_setCell w ⟨b, i, .none⟩ v k (hb k x hx)).trans (h k x hx)
theorem LLies.kp (h : LLies w H) {S : Nat → Prop} (hk : Kp S w w') (hS : ∀ b, (H b).isSome = true → ¬ S b) : LLies w' H := fun b x hx => (hk.block b (h b x hx).lt (hS b (by simp [hx]))).trans (h b x hx)
theorem LLies.kp0 (h : LLies w H) (hk : Kp (fun _ => False) w w') : LLies w' H := h.kp hk (fun _ _ h => h)
theorem LLies.del (h : LLies w H) (b : Nat) : LLies w (delL H b) := fun k x hx => by
  unfold delL at hx
  split at hx
  · cases hx
  · exact h k x hx
theorem LLies.add (h : LLies w H) (x : Lk) (b : Nat) (hb : b = w.heap.size) : LLies (w.alloc (.cells x.cells 138)) (addL H b x) := by
  subst hb
  intro k y hy
  unfold addL at hy
  split at hy
  · rename_i e
    cases hy
    subst e
    exact heap_alloc_new _ _
  · exact (Below.heap_alloc _ _ _ (h k y hy).lt).trans (h k y hy)
end

/-- The list's struct. -/
def LsAt (w : World) (lb mb : Nat) (f l : Option Nat) : Prop := w.heap[lb]? = some (.cells #[.map (some mb), .pointer (adr f), .pointer (adr l)] 136 (0, 0))
section
variable {w : World} {lb mb : Nat} {f l : Option Nat}
theorem LsAt.c0 (h : LsAt w lb mb f l) : w.cell? ⟨lb, 0, .none⟩ = some (.map (some mb)) := by simp [World.cell?, show w.heap[lb]? = _ from h]
theorem LsAt.c1 (h : LsAt w lb mb f l) : w.cell? ⟨lb, 1, .none⟩ = some (.pointer (adr f)) := by simp [World.cell?, show w.heap[lb]? = _ from h]
theorem LsAt.c2 (h : LsAt w lb mb f l) : w.cell? ⟨lb, 2, .none⟩ = some (.pointer (adr l)) := by simp [World.cell?, show w.heap[lb]? = _ from h]
theorem LsAt.fz (h : LsAt w lb mb f l) (i : Nat) : w.frozen? ⟨lb, i, .none⟩ = false := by simp [World.frozen?, show w.heap[lb]? = _ from h]
theorem LsAt.lt (h : LsAt w lb mb f l) : lb < w.heap.size := lt_of_block h
theorem LsAt.ne (h : LsAt w lb mb f l) {b : Nat} {x : Lk} (hx : LkAt w b x) : b ≠ lb := by
  intro e
  subst e
  have := h.symm.trans hx
  simp [Lk.cells] at this
theorem LsAt.setF (h : LsAt w lb mb f l) (p : Option Nat) : LsAt (w.setCell ⟨lb, 1, .none⟩ (.pointer (adr p))) lb mb p l := heap_setCell_self h 1 (.pointer (adr p))
theorem LsAt.setL (h : LsAt w lb mb f l) (p : Option Nat) : LsAt (w.setCell ⟨lb, 2, .none⟩ (.pointer (adr p))) lb mb f p := heap_setCell_self h 2 (.pointer (adr p))
theorem LsAt.other (h : LsAt w lb mb f l) (b i : Nat) (v : Value) (hb : b ≠ lb) : LsAt (w.setCell ⟨b, i, .none⟩ v) lb mb f l := (Below.heap_setCell w ⟨b, i, .none⟩ v lb (fun e => hb e.symm)).trans h
end

/-- The list's map: from handles to links. -/
def MapL (w : World) (mb n : Nat) (F : Hd → Option Nat) : Prop := ∃ M, MapN Try.prog 34 w mb n M ∧ ∀ h : Hd, M h.v = (F h).map fun b => .pointer (some ⟨b, 0, .none⟩)
section
variable {w w' : World} {mb n : Nat} {F : Hd → Option Nat}
theorem MapL.made (w : World) : MapL (w.alloc (.map #[] 0)) w.heap.size 0 (fun _ => .none) := ⟨_, MapN.made _ _ _, fun _ => rfl⟩
theorem MapL.block (h : MapL w mb n F) {w' : World} (hw : w'.heap[mb]? = w.heap[mb]?) : MapL w' mb n F := by
  obtain ⟨M, h1, h2⟩ := h
  exact ⟨M, h1.block hw, h2⟩
theorem MapL.lt (h : MapL w mb n F) : mb < w.heap.size := by obtain ⟨M, h1, _⟩ := h; exact h1.lt
theorem MapL.ne (h : MapL w mb n F) {b : Nat} {cs : Array Value} {ty : TypeId} {f : Nat × Nat} (hc : w.heap[b]? = some (.cells cs ty f)) : b ≠ mb := by obtain ⟨M, h1, _⟩ := h; exact h1.not_cells hc
theorem MapL.kp (h : MapL w mb n F) {S : Nat → Prop} (hk : Kp S w w') (hS : ¬ S mb) : MapL w' mb n F := h.block (hk.block mb h.lt hS)
theorem MapL.alloc (h : MapL w mb n F) (o : Obj) : MapL (w.alloc o) mb n F := h.block (Below.heap_alloc _ _ _ h.lt)
theorem MapL.drewN (h : MapL w mb n F) (k : Nat) : MapL (w.drewN k) mb n F := h
theorem MapL.setCell (h : MapL w mb n F) (b i : Nat) (v : Value) (hb : b ≠ mb) : MapL (w.setCell ⟨b, i, .none⟩ v) mb n F := h.block (Below.heap_setCell _ _ _ _ (fun e => hb e.symm))
theorem zero134 (w : World) : (zeroValue 134).run Try.prog w = .ok (.pointer .none) w := by kernel_rfl
theorem MapL.look (hM : MapL w mb n F) (h : Hd) (hk : h.ok) (r : Option Nat) (hr : F h = r) (k : Nat) :
    (Instr.lookup 133 (.map (some mb)) (.agg #[.int .i64 h.s, .int .u64 h.g]) false).run Try.prog (w.drewN k) = .ok (.pointer (adr r)) (w.drewN k) := by
  obtain ⟨M, h1, h2⟩ := hM
  obtain ⟨kl, hkl⟩ := key34 h hk
  have := (h1.drewN k).look false law34 Try.underlying133 (zero134 _) hkl
  rw [h2, hr] at this
  rw [show (Value.agg #[.int .i64 h.s, .int .u64 h.g]) = h.v from rfl, this]
  cases r <;> rfl
theorem MapL.len (hM : MapL w mb n F) (ty : TypeId) (k : Nat) : (Builtin.len_ #[133] ty #[.map (some mb)]).run Try.prog (w.drewN k) = .ok (.int .i64 n) (w.drewN k) := by
  obtain ⟨M, h1, h2⟩ := hM
  exact (h1.drewN k).len Try.underlying133
/-- 'm[h] = x' at the operation, h not yet in. -/
theorem wpList_store_l {ops : Array Oper} {rest : List Oper} {o : Oper} {a : Act} {Q : Exit → Act → World → Prop} (hg : o.guard = .none) (m x v : Operand) (hop : o.op = .mapUpdate 133 m x v)
    (hm : a.eval m = .map (some mb)) (hM : MapL w mb n F) (h : Hd) (hk : h.ok) (b : Nat) (hF : F h = .none) (hx : a.eval x = h.v) (hv : a.eval v = .pointer (some ⟨b, 0, .none⟩))
    (hK : ∀ w', MapL w' mb (n + 1) (fput F h b) → Only mb w w' → wpList Try.prog ops Q rest (a.put o.dst undef) w') : wpList Try.prog ops Q (o :: rest) a w := by
  obtain ⟨M, h1, h2⟩ := hM
  obtain ⟨kl, hkl⟩ := key34 h hk
  refine wpList_store_n hg m x v hop law34 Try.underlying133 hm h1 h.v _ kl hkl hx hv ?_
  intro w' h3 ho
  rw [h2, hF] at h3
  refine hK w' ⟨_, h3, fun y => ?_⟩ ho
  by_cases e : y = h
  · subst e; simp [mput_same, fput]
  · rw [mput_other _ _ _ _ (fun e' => e (Hd.v_inj e')), h2]; simp [fput, e]
/-- 'delete(m, h)' at the operation, h in. -/
theorem wpList_delete_l {ops : Array Oper} {rest : List Oper} {o : Oper} {a : Act} {Q : Exit → Act → World → Prop} (hg : o.guard = .none) (m x : Operand) (hop : o.op = .call ⟨.builtin .delete, #[m, x], #[133, 34]⟩)
    (hm : a.eval m = .map (some mb)) (hM : MapL w mb n F) (h : Hd) (hk : h.ok) (b : Nat) (hF : F h = some b) (hx : a.eval x = h.v)
    (hK : ∀ w', MapL w' mb (n - 1) (fdel F h) → Only mb w w' → wpList Try.prog ops Q rest (a.put o.dst (.tuple #[])) w') : wpList Try.prog ops Q (o :: rest) a w := by
  obtain ⟨M, h1, h2⟩ := hM
  obtain ⟨kl, hkl⟩ := key34 h hk
  refine wpList_delete_n hg m x hop law34 Try.underlying133 hm h1 h.v kl hkl hx ?_
  intro w' h3 ho
  rw [h2, hF] at h3
  refine hK w' ⟨_, h3, fun y => ?_⟩ ho
  by_cases e : y = h
  · subst e; simp [mdel_same, fdel]
  · rw [mdel_other _ _ _ (fun e' => e (Hd.v_inj e')), h2]; simp [fdel, e]
end

/-- Struct, links, map of a list that holds the links l. -/
structure LW (w : World) (lb mb : Nat) (H : LHp) (F : Hd → Option Nat) (l : LL) : Prop where
  t : LsAt w lb mb (hdL l .none) (lsL l .none)
  h : LLies w H
  m : MapL w mb l.length F
  c : Chain H .none l .none
  nd : (blsL l).Nodup
  hn : (hsL l).Nodup
  f : ∀ h b, F h = some b ↔ (h, b) ∈ l
  ok : ∀ h ∈ hsL l, h.ok
  dom : ∀ b, (H b).isSome = true ↔ b ∈ blsL l

/-- At block lb lies a list of the handles L, in order, through the blocks S. -/
def ListAt (w : World) (lb : Nat) (S : Nat → Prop) (L : List Hd) : Prop := ∃ mb H F l, LW w lb mb H F l ∧ hsL l = L ∧ ∀ k, S k ↔ k = lb ∨ k = mb ∨ k ∈ blsL l

section
variable {w w' : World} {lb mb : Nat} {H : LHp} {F : Hd → Option Nat} {l : LL} {S : Nat → Prop} {L : List Hd}
theorem LW.blk (h : LW w lb mb H F l) {b : Nat} (hb : b ∈ blsL l) : ∃ x, H b = some x ∧ LkAt w b x := by
  obtain ⟨x, hx⟩ := Option.isSome_iff_exists.1 ((h.dom b).2 hb)
  exact ⟨x, hx, h.h b x hx⟩
theorem LW.lt (h : LW w lb mb H F l) {k : Nat} (hk : k = lb ∨ k = mb ∨ k ∈ blsL l) : k < w.heap.size := by
  rcases hk with rfl | rfl | hk
  · exact h.t.lt
  · exact h.m.lt
  · obtain ⟨x, _, hx⟩ := h.blk hk
    exact hx.lt
theorem LW.kp (h : LW w lb mb H F l) {R : Nat → Prop} (hk : Kp R w w') (hd : ∀ k, k = lb ∨ k = mb ∨ k ∈ blsL l → ¬ R k) : LW w' lb mb H F l :=
  ⟨(hk.block lb h.t.lt (hd lb (.inl rfl))).trans h.t, h.h.kp hk (fun b hb => hd b (.inr (.inr ((h.dom b).1 hb)))), h.m.kp hk (hd mb (.inr (.inl rfl))), h.c, h.nd, h.hn, h.f, h.ok, h.dom⟩
theorem LW.kp0 (h : LW w lb mb H F l) (hk : Kp (fun _ => False) w w') : LW w' lb mb H F l := h.kp hk (fun _ _ h => h)
theorem ListAt.lt (h : ListAt w lb S L) {k : Nat} (hk : S k) : k < w.heap.size := by
  obtain ⟨mb, H, F, l, h1, _, h3⟩ := h
  exact h1.lt ((h3 k).1 hk)
theorem ListAt.self (h : ListAt w lb S L) : S lb := by
  obtain ⟨mb, H, F, l, h1, _, h3⟩ := h
  exact (h3 lb).2 (.inl rfl)
theorem ListAt.kp (h : ListAt w lb S L) {R : Nat → Prop} (hk : Kp R w w') (hd : ∀ k, S k → ¬ R k) : ListAt w' lb S L := by
  obtain ⟨mb, H, F, l, h1, h2, h3⟩ := h
  exact ⟨mb, H, F, l, h1.kp hk (fun k hk' => hd k ((h3 k).2 hk')), h2, h3⟩
theorem ListAt.kp0 (h : ListAt w lb S L) (hk : Kp (fun _ => False) w w') : ListAt w' lb S L := h.kp hk (fun _ _ h => h)
theorem ListAt.nodup (h : ListAt w lb S L) : L.Nodup := by
  obtain ⟨mb, H, F, l, h1, rfl, h3⟩ := h
  exact h1.hn
theorem ListAt.ok (h : ListAt w lb S L) : ∀ x ∈ L, x.ok := by
  obtain ⟨mb, H, F, l, h1, rfl, h3⟩ := h
  exact h1.ok
theorem LW.look_some (h : LW w lb mb H F l) {x : Hd} (hx : x ∈ hsL l) : ∃ b pre post, F x = some b ∧ l = pre ++ (x, b) :: post := by
  obtain ⟨p, hp, rfl⟩ := List.mem_map.1 hx
  obtain ⟨pre, post, rfl⟩ := List.append_of_mem hp
  exact ⟨p.2, pre, post, (h.f _ _).2 hp, rfl⟩
theorem LW.look_none (h : LW w lb mb H F l) {x : Hd} (hx : x ∉ hsL l) : F x = .none := by
  cases e : F x with
  | none => rfl
  | some b => exact absurd (List.mem_map.2 ⟨(x, b), (h.f x b).1 e, rfl⟩) hx
end

/-! ### The small walks -/
set_option maxHeartbeats 400000 in
theorem list_new (w : World) : Calls Try.prog 55 #[] w fun e w' => ∃ lb S, e = .returned (.pointer (some ⟨lb, 0, .none⟩)) ∧ ListAt w' lb S [] ∧ (∀ k, S k → w.heap.size ≤ k) ∧ Kp (fun _ => False) w w' := by
  have hmm := @run_makeMap Try.prog
  go_enter Try.func55, Try.ntmps55
  go_wp2
  go_ret
  refine ⟨w.heap.size + 1, fun k => k = w.heap.size + 1 ∨ k = w.heap.size, rfl, ⟨w.heap.size, fun _ => .none, fun _ => .none, [], ⟨?_, (fun _ _ h => by cases h), (MapL.made w).alloc _, trivial, by simp [blsL], by simp [hsL], by simp, by simp [hsL], by simp [blsL]⟩, rfl, by simp [blsL]⟩, by omega, ((Kp.refl _ _).alloc _).alloc _⟩
  have := heap_alloc_new (w.alloc (.map #[] 0)) (.cells #[.map (some w.heap.size), .pointer .none, .pointer .none] 136)
  rw [World.size_alloc] at this
  exact this

set_option maxRecDepth 100000 in
set_option maxHeartbeats 1000000 in
theorem list_len {w : World} {lb : Nat} {S : Nat → Prop} {L : List Hd} (h : ListAt w lb S L) : Calls Try.prog 124 #[.pointer (some ⟨lb, 0, .none⟩)] w fun e w' => e = .returned (.int .i64 L.length) ∧ w' = w := by
  obtain ⟨mb, H, F, l, h1, rfl, h3⟩ := h
  have c0 := h1.t.c0
  have hl := fun ty => h1.m.len ty 0
  have e0 : w.drewN 0 = w := rfl
  rw [e0] at hl
  go_enter Try.func124, Try.ntmps124
  go_wp2
  go_ret
  exact ⟨by simp [hsL], rfl⟩
end Go.Proofs.Ytimhbnlgambcaaa
