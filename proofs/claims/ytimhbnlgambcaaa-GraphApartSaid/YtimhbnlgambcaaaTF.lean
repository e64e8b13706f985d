/- The tree's map of handles, at the operations; the walks of New, Len. -/
import Derived.Test.YtimhbnlgambcaaaTE
import Derived.Test.YtimhbnlgambcaaaMa
import Derived.Test.YtimhbnlgambcaaaPc
namespace Go.Proofs.Ytimhbnlgambcaaa
open Go.RowKit
open Go.Maps (Keyed)
open Go.ChangeMaps (setBlock heap_setBlock_same heap_setBlock_other)

theorem laidOut : laidOutB Try.prog = true := by kernel_rfl
theorem row34 : (34 : TypeId) < Try.prog.types.size := of_decide_eq_true (by kernel_rfl)
theorem wide34 : (match Try.prog.underlying 34 with | some (.array _ _) | some (.struct _) => true | _ => false) = true := by rw [Try.underlying34]
set_option maxRecDepth 100000 in
theorem law34 : Keyed Try.prog 34 := Keyed.of_law (deep_law_laid laidOut (m := 2) (by omega) row34 (by kernel_rfl) wide34)
theorem deep34 : Try.prog.keyType 34 = true := by kernel_rfl
theorem cells34 : Try.prog.cellsOf 34 = 2 := by kernel_rfl

def Hd.v (h : Hd) : Value := .agg #[.int .i64 h.s, .int .u64 h.g]
def Hd.ok (h : Hd) : Prop := (Lit.int .i64 h.s).wf = true ∧ (Lit.int .u64 h.g).wf = true

theorem Hd.v_inj {a b : Hd} (h : a.v = b.v) : a = b := by
  cases a; cases b; simp [Hd.v] at h; simp [h]

theorem formed34 (h : Hd) : (h.v).formed Try.prog 34 = true := by
  simp [Hd.v, Value.formed, Try.underlying34, cells34]

theorem cells3 : Try.prog.cellsOf 3 = 1 := by kernel_rfl
theorem cells32 : Try.prog.cellsOf 32 = 1 := by kernel_rfl
theorem size0 : Try.prog.types.size = (Try.prog.types.size - 1) + 1 := by kernel_rfl
theorem lits34 (d : Nat) (h : Hd) (hk : h.ok) : Try.prog.keyLits (d + 2) 34 h.v.cells.toList = some [.int .i64 h.s, .int .u64 h.g] := by
  obtain ⟨h1, h2⟩ := hk
  simp [Program.keyLits, Try.underlying34, Try.underlying3, Try.underlying32, cells34, cells3, cells32, Hd.v, Value.cells, h1, h2]

theorem key34 (h : Hd) (hk : h.ok) : ∃ kl, keyOf Try.prog 34 h.v = some kl := by
  unfold keyOf
  rw [Try.underlying34]
  simp only [deep34, formed34, Bool.and_true, if_true]
  have : Try.prog.keyLits (Try.prog.types.size + 1) 34 h.v.cells.toList = some [.int .i64 h.s, .int .u64 h.g] := by
    rw [size0]
    exact lits34 _ h hk
  rw [this]
  exact ⟨_, rfl⟩

theorem zero89 (w : World) : (zeroValue 89).run Try.prog w = .ok (.pointer .none) w := by kernel_rfl

/-- Nothing but block b has turned. -/
structure Only (b : Nat) (w w' : World) : Prop where
  os : w'.os = w.os
  tape : w'.tape = w.tape
  output : w'.output = w.output
  size : w'.heap.size = w.heap.size
  block : ∀ k, k ≠ b → w'.heap[k]? = w.heap[k]?

theorem Only.kp {b : Nat} {w w' : World} (h : Only b w w') {S : Nat → Prop} (hb : S b) : Kp S w w' :=
  ⟨h.os, h.tape, h.output, Nat.le_of_eq h.size.symm, fun k _ hk => h.block k (fun e => hk (e ▸ hb))⟩
theorem Only.of_setBlock (b : Nat) (w : World) (o : Obj) : Only b w (setBlock w b o) :=
  ⟨rfl, rfl, rfl, by simp [setBlock], fun k hk => by
    show (w.heap.setIfInBounds b o)[k]? = _
    rw [Array.getElem?_setIfInBounds_ne (fun e => hk e.symm)]⟩
theorem Only.cells {b : Nat} {w w' : World} (h : Only b w w') {k : Nat} (hk : k ≠ b) {o : Obj} (hc : w.heap[k]? = some o) : w'.heap[k]? = some o := (h.block k hk).trans hc

/-- The tree's map: from handles to nodes. -/
def MapT (w : World) (mb n : Nat) (F : Hd → Option Nat) : Prop :=
  ∃ M, MapIs Try.prog 34 w mb n M ∧ ∀ h : Hd, M h.v = (F h).map fun b => .pointer (some ⟨b, 0, .none⟩)

def fput (F : Hd → Option Nat) (h : Hd) (b : Nat) : Hd → Option Nat := fun x => if x = h then some b else F x
def fdel (F : Hd → Option Nat) (h : Hd) : Hd → Option Nat := fun x => if x = h then .none else F x

section
variable {w : World} {mb n : Nat} {F : Hd → Option Nat}
theorem MapT.made (w : World) : MapT (w.alloc (.map #[] 0)) w.heap.size 0 (fun _ => .none) := ⟨_, MapIs.made _ _ _, fun _ => rfl⟩
theorem MapT.block (h : MapT w mb n F) {w' : World} (hw : w'.heap[mb]? = w.heap[mb]?) : MapT w' mb n F := by
  obtain ⟨M, h1, h2⟩ := h
  exact ⟨M, h1.block hw, h2⟩
theorem MapT.lt (h : MapT w mb n F) : mb < w.heap.size := by
  obtain ⟨M, h1, _⟩ := h
  exact h1.lt
theorem MapT.ne (h : MapT w mb n F) {b : Nat} {cs : Array Value} {ty : TypeId} {f : Nat × Nat} (hc : w.heap[b]? = some (.cells cs ty f)) : b ≠ mb := by
  obtain ⟨M, h1, _⟩ := h
  exact h1.not_cells hc
theorem MapT.drew (h : MapT w mb n F) : MapT w.drew mb n F := h
theorem MapT.drewN (h : MapT w mb n F) (k : Nat) : MapT (w.drewN k) mb n F := h
theorem MapT.alloc (h : MapT w mb n F) (o : Obj) : MapT (w.alloc o) mb n F := h.block (Below.heap_alloc _ _ _ h.lt)
theorem MapT.setCell (h : MapT w mb n F) (b i : Nat) (v : Value) (hb : b ≠ mb) : MapT (w.setCell ⟨b, i, .none⟩ v) mb n F := h.block (Below.heap_setCell _ _ _ _ (fun e => hb e.symm))
theorem MapT.mono (h : MapT w mb n F) {n' : Nat} (hn : n ≤ n') : MapT w mb n' F := by
  obtain ⟨M, h1, h2⟩ := h
  exact ⟨M, h1.mono hn, h2⟩
theorem MapT.kp (h : MapT w mb n F) {S : Nat → Prop} {w' : World} (hk : Kp S w w') (hS : ¬ S mb) : MapT w' mb n F := h.block (hk.block mb h.lt hS)

theorem MapT.look (hM : MapT w mb n F) (h : Hd) (hk : h.ok) : (Instr.lookup 88 (.map (some mb)) h.v false).run Try.prog w = .ok (.pointer (adr (F h))) w := by
  obtain ⟨M, h1, h2⟩ := hM
  obtain ⟨kl, hkl⟩ := key34 h hk
  rw [h1.look false law34 Try.underlying88 (zero89 w) hkl, h2]
  cases F h <;> rfl

/-- 'm[h] = x' at the operation. -/
theorem wpList_store_t {ops : Array Oper} {rest : List Oper} {o : Oper} {a : Act} {Q : Exit → Act → World → Prop} (hg : o.guard = .none) (m x v : Operand) (hop : o.op = .mapUpdate 88 m x v)
    (hm : a.eval m = .map (some mb)) (hM : MapT w mb n F) (h : Hd) (hk : h.ok) (b : Nat) (hx : a.eval x = h.v) (hv : a.eval v = .pointer (some ⟨b, 0, .none⟩))
    (hK : ∀ w', MapT w' mb (n + 1) (fput F h b) → Only mb w w' → wpList Try.prog ops Q rest (a.put o.dst undef) w') : wpList Try.prog ops Q (o :: rest) a w := by
  obtain ⟨M, h1, h2⟩ := hM
  obtain ⟨kl, hkl⟩ := key34 h hk
  obtain ⟨ob, hrun, h3⟩ := h1.store (val := .pointer (some ⟨b, 0, .none⟩)) law34 Try.underlying88 hkl
  refine wpList_plain hg fun K' hK' => ?_
  unfold Oper.wp
  simp [execOp, hop, hm, hx, hv, hrun, Result.andThen]
  refine hK' _ _ (hK _ ⟨_, h3, fun y => ?_⟩ (Only.of_setBlock mb w ob))
  by_cases e : y = h
  · subst e
    simp [mput_same, fput]
  · rw [mput_other _ _ _ _ (fun e' => e (Hd.v_inj e')), h2]
    simp [fput, e]

/-- 'delete(m, h)' at the operation. -/
theorem wpList_delete_t {ops : Array Oper} {rest : List Oper} {o : Oper} {a : Act} {Q : Exit → Act → World → Prop} (hg : o.guard = .none) (m x : Operand) (hop : o.op = .call ⟨.builtin .delete, #[m, x], #[88, 34]⟩)
    (hm : a.eval m = .map (some mb)) (hM : MapT w mb n F) (h : Hd) (hk : h.ok) (hx : a.eval x = h.v)
    (hK : ∀ w', MapT w' mb n (fdel F h) → Only mb w w' → wpList Try.prog ops Q rest (a.put o.dst (.tuple #[])) w') : wpList Try.prog ops Q (o :: rest) a w := by
  obtain ⟨M, h1, h2⟩ := hM
  obtain ⟨kl, hkl⟩ := key34 h hk
  obtain ⟨ob, hrun, h3⟩ := h1.drop (ty := o.type) law34 Try.underlying88 hkl
  refine wpList_plain hg fun K' hK' => ?_
  unfold Oper.wp
  simp [execOp, hop, resolve, invoke, builtin, hm, hx, hrun, Result.andThen]
  refine hK' _ _ (hK _ ⟨_, h3, fun y => ?_⟩ (Only.of_setBlock mb w ob))
  by_cases e : y = h
  · subst e
    simp [mdel_same, fdel]
  · rw [mdel_other _ _ _ (fun e' => e (Hd.v_inj e')), h2]
    simp [fdel, e]
end

theorem Lies.kp {w w' : World} {H : Hp} (h : Lies w H) {S : Nat → Prop} (hk : Kp S w w') (hS : ∀ b, (H b).isSome = true → ¬ S b) : Lies w' H := fun b x hx =>
  (hk.block b (h b x hx).lt (hS b (by simp [hx]))).trans (h b x hx)
theorem Lies.alloc {w : World} {H : Hp} (h : Lies w H) (o : Obj) : Lies (w.alloc o) H := fun b x hx => (Below.heap_alloc _ _ _ (h b x hx).lt).trans (h b x hx)
theorem TR.alloc {w : World} {tb mb : Nat} {root : Option Nat} {H : Hp} (h : TR w tb mb root H) (o : Obj) : TR (w.alloc o) tb mb root H :=
  ⟨(Below.heap_alloc _ _ _ h.t.lt).trans h.t, h.h.alloc o⟩
theorem TR.only {w w' : World} {tb mb b : Nat} {root : Option Nat} {H : Hp} (h : TR w tb mb root H) (ho : Only b w w') (ht : tb ≠ b) (hb : H b = .none) : TR w' tb mb root H :=
  ⟨(ho.block tb ht).trans h.t, fun k x hx => (ho.block k (fun e => by rw [e, hb] at hx; cases hx)).trans (h.h k x hx)⟩

/-- A whole tree: struct, nodes, map. -/
structure TW (w : World) (tb mb n : Nat) (root : Option Nat) (H : Hp) (F : Hd → Option Nat) : Prop where
  r : TR w tb mb root H
  m : MapT w mb n F

/-- The blocks of a tree. -/
def TSM (tb mb : Nat) (H : Hp) (k : Nat) : Prop := k = mb ∨ TS tb H k

theorem TW.mb {w : World} {tb mb n : Nat} {root : Option Nat} {H : Hp} {F : Hd → Option Nat} (h : TW w tb mb n root H F) : ¬ TS tb H mb := by
  rintro (e | e)
  · exact h.m.ne (h.r.t) e.symm
  · obtain ⟨x, hx⟩ := Option.isSome_iff_exists.1 e
    exact h.m.ne (h.r.h mb x hx) rfl
theorem TW.hmb {w : World} {tb mb n : Nat} {root : Option Nat} {H : Hp} {F : Hd → Option Nat} (h : TW w tb mb n root H F) : H mb = .none := by
  cases e : H mb with
  | none => rfl
  | some x => exact absurd (.inr (by simp [e])) h.mb
theorem TW.tb {w : World} {tb mb n : Nat} {root : Option Nat} {H : Hp} {F : Hd → Option Nat} (h : TW w tb mb n root H F) : tb ≠ mb := fun e => h.mb (.inl e.symm)

set_option maxHeartbeats 400000 in
theorem len_any (w : World) (tb mb : Nat) (root : Option Nat) (H : Hp) (hR : TR w tb mb root H) (n : Int) (h : sizeH H root = some n) :
    Calls Try.prog 22 #[.pointer (some ⟨tb, 0, .none⟩)] w fun e w' => e = .returned (.int .i64 n) ∧ w = w' := by
  have t0 := hR.t.c0
  go_enter Try.func22, Try.ntmps22
  go_wp2_with (go_at_call 47; refine (size_any _ H hR.h _ _ h).mono ?_; rintro e w1 ⟨rfl, rfl⟩)
  go_ret
  exact ⟨rfl, rfl⟩

set_option maxHeartbeats 400000 in
theorem new_any (w : World) : Calls Try.prog 10 #[] w fun e w' => ∃ tb mb, e = .returned (.pointer (some ⟨tb, 0, .none⟩)) ∧ TW w' tb mb 0 .none (fun _ => .none) (fun _ => .none) ∧ w.heap.size ≤ tb ∧ w.heap.size ≤ mb ∧ Kp (fun _ => False) w w' := by
  have hmm := @run_makeMap Try.prog
  go_enter Try.func10, Try.ntmps10
  go_wp2
  go_ret
  exact ⟨w.heap.size + 1, w.heap.size, rfl, ⟨⟨by have := (MapKept.heap_alloc (w.alloc (.map #[] 0)) (.cells #[.pointer .none, .map (some w.heap.size)] 91)).1; rw [World.size_alloc] at this; exact this, fun b x hx => by cases hx⟩, (MapT.made w).alloc _⟩, by omega, by omega, ((Kp.refl _ _).alloc _).alloc _⟩

end Go.Proofs.Ytimhbnlgambcaaa
