/- The words of the tree's memory (nodes as blocks, a frame), and the walks of size, isRed, which. -/
import Derived.Test.YtimhbnlgambcaaaRows
import Derived.Test.YtimhbnlgambcaaaPa
import Derived.WalkKit
import Derived.WalkSpells
import Derived.WalkLawsBesides
import Derived.BigRegion
import Derived.Deep.QuietTactic
import Derived.BigQuiet
import Derived.StillTailTactics
import Derived.LaidEqlPtr
namespace Go.Proofs.Ytimhbnlgambcaaa
open Go.RowKit

/-- Only the blocks of S have turned, of what was there. -/
structure Kp (S : Nat → Prop) (w w' : World) : Prop where
  os : w'.os = w.os
  tape : w'.tape = w.tape
  output : w'.output = w.output
  size : w.heap.size ≤ w'.heap.size
  block : ∀ k, k < w.heap.size → ¬ S k → w'.heap[k]? = w.heap[k]?

theorem Kp.refl (S : Nat → Prop) (w : World) : Kp S w w := ⟨rfl, rfl, rfl, Nat.le_refl _, fun _ _ _ => rfl⟩
theorem Kp.trans {S : Nat → Prop} {a b c : World} (h : Kp S a b) (k : Kp S b c) : Kp S a c :=
  ⟨k.os.trans h.os, k.tape.trans h.tape, k.output.trans h.output, Nat.le_trans h.size k.size, fun i hi hs => (k.block i (Nat.lt_of_lt_of_le hi h.size) hs).trans (h.block i hi hs)⟩
theorem Kp.mono {S S' : Nat → Prop} {a b : World} (h : Kp S a b) (hs : ∀ k, k < a.heap.size → S k → S' k) : Kp S' a b :=
  ⟨h.os, h.tape, h.output, h.size, fun i hi hn => h.block i hi fun hk => hn (hs i hi hk)⟩
theorem Kp.drew {S : Nat → Prop} {a w : World} (h : Kp S a w) : Kp S a w.drew := ⟨h.os, h.tape, h.output, h.size, h.block⟩
theorem Kp.drewN {S : Nat → Prop} {a w : World} (h : Kp S a w) (n : Nat) : Kp S a (w.drewN n) := ⟨h.os, h.tape, h.output, h.size, h.block⟩
theorem Kp.setCell {S : Nat → Prop} {a w : World} (h : Kp S a w) (b i : Nat) (v : Value) (hb : S b) : Kp S a (w.setCell ⟨b, i, .none⟩ v) :=
  h.trans ⟨rfl, rfl, rfl, by simp [World.setCell], fun k _ hk => Below.heap_setCell _ _ _ _ (fun e => hk (by rw [e]; exact hb))⟩
theorem Kp.alloc {S : Nat → Prop} {a w : World} (h : Kp S a w) (o : Obj) : Kp S a (w.alloc o) :=
  h.trans ⟨rfl, rfl, rfl, by simp, fun k hk _ => Below.heap_alloc _ _ _ hk⟩
theorem Kp.below {S : Nat → Prop} {a w : World} (h : Kp S a w) {B : Nat} (hB : B ≤ a.heap.size) (hS : ∀ k, S k → B ≤ k) : Below B a w :=
  ⟨h.os, h.tape, h.output, h.size, fun k hk => h.block k (by omega) (fun hs => by have := hS k hs; omega)⟩

def adr : Option Nat → Option Addr
  | .none => .none
  | some b => some ⟨b, 0, .none⟩

theorem adr_some (b : Nat) : adr (some b) = some ⟨b, 0, .none⟩ := rfl
theorem adr_none : adr .none = .none := rfl

theorem adr_inj {a b : Option Nat} (h : adr a = adr b) : a = b := by
  cases a <;> cases b <;> simp_all [adr]

def Nd.cells (x : Nd) : Array Value := #[.int .i64 x.s, .int .u64 x.g, .pointer (adr x.l), .pointer (adr x.r), .pointer (adr x.up), .int .i64 x.n, .bool x.red]

def NdAt (w : World) (b : Nat) (x : Nd) : Prop := w.heap[b]? = some (.cells x.cells 95 (0, 0))

section
variable {w : World} {b : Nat} {x : Nd}
theorem NdAt.c0 (h : NdAt w b x) : w.cell? ⟨b, 0, .none⟩ = some (.int .i64 x.s) := by simp [World.cell?, show w.heap[b]? = _ from h, Nd.cells]
theorem NdAt.c1 (h : NdAt w b x) : w.cell? ⟨b, 1, .none⟩ = some (.int .u64 x.g) := by simp [World.cell?, show w.heap[b]? = _ from h, Nd.cells]
theorem NdAt.c2 (h : NdAt w b x) : w.cell? ⟨b, 2, .none⟩ = some (.pointer (adr x.l)) := by simp [World.cell?, show w.heap[b]? = _ from h, Nd.cells]
theorem NdAt.c3 (h : NdAt w b x) : w.cell? ⟨b, 3, .none⟩ = some (.pointer (adr x.r)) := by simp [World.cell?, show w.heap[b]? = _ from h, Nd.cells]
theorem NdAt.c4 (h : NdAt w b x) : w.cell? ⟨b, 4, .none⟩ = some (.pointer (adr x.up)) := by simp [World.cell?, show w.heap[b]? = _ from h, Nd.cells]
theorem NdAt.c5 (h : NdAt w b x) : w.cell? ⟨b, 5, .none⟩ = some (.int .i64 x.n) := by simp [World.cell?, show w.heap[b]? = _ from h, Nd.cells]
theorem NdAt.c6 (h : NdAt w b x) : w.cell? ⟨b, 6, .none⟩ = some (.bool x.red) := by simp [World.cell?, show w.heap[b]? = _ from h, Nd.cells]
theorem NdAt.ck (h : NdAt w b x) (s : Bool) : w.cell? ⟨b, 2 + (bi s).toNat, .none⟩ = some (.pointer (adr (x.kid s))) := by cases s; exact h.c2; exact h.c3
theorem NdAt.fz (h : NdAt w b x) (i : Nat) : w.frozen? ⟨b, i, .none⟩ = false := by simp [World.frozen?, show w.heap[b]? = _ from h]
theorem NdAt.lt (h : NdAt w b x) : b < w.heap.size := lt_of_block h
end

theorem heap_setCell_self {w : World} {b : Nat} {c : Array Value} {t : TypeId} {f : Nat × Nat} (h : w.heap[b]? = some (.cells c t f)) (i : Nat) (v : Value) :
    (w.setCell ⟨b, i, .none⟩ v).heap[b]? = some (.cells (c.setIfInBounds i v) t f) := by
  have hlt := lt_of_block h
  have h' : w.heap[b] = .cells c t f := by simpa [Array.getElem?_eq_getElem hlt] using h
  show (w.heap.modify b _)[b]? = _
  rw [Array.getElem?_eq_getElem (by simpa using hlt), Array.getElem_modify_self, h']
  rfl

/-- The nodes lie in the world. -/
def Lies (w : World) (H : Hp) : Prop := ∀ b x, H b = some x → NdAt w b x

theorem Lies.set {w : World} {H : Hp} (h : Lies w H) (b i : Nat) (v : Value) (f : Nd → Nd) (hf : ∀ x, H b = some x → (f x).cells = x.cells.setIfInBounds i v) :
    Lies (w.setCell ⟨b, i, .none⟩ v) (upd H b f) := by
  intro k x hx
  by_cases e : k = b
  · subst e
    rw [upd_same] at hx
    cases hk : H k with
    | none => simp [hk] at hx
    | some X =>
      simp [hk] at hx
      subst hx
      have := heap_setCell_self (h k X hk) i v
      rw [← hf X hk] at this
      exact this
  · rw [upd_other _ _ _ _ e] at hx
    exact (Below.heap_setCell w ⟨b, i, .none⟩ v k e).trans (h k x hx)

theorem Lies.other {w : World} {H : Hp} (h : Lies w H) (b i : Nat) (v : Value) (hb : H b = .none) : Lies (w.setCell ⟨b, i, .none⟩ v) H := by
  intro k x hx
  refine (Below.heap_setCell w ⟨b, i, .none⟩ v k (fun e => ?_)).trans (h k x hx)
  have e' : k = b := e
  rw [e', hb] at hx
  cases hx
theorem Lies.drew {w : World} {H : Hp} (h : Lies w H) : Lies w.drew H := h
theorem Lies.drewN {w : World} {H : Hp} (h : Lies w H) (n : Nat) : Lies (w.drewN n) H := h
theorem Lies.kid {w : World} {H : Hp} (h : Lies w H) (b : Nat) (s : Bool) (p : Option Nat) : Lies (w.setCell ⟨b, 2 + (bi s).toNat, .none⟩ (.pointer (adr p))) (upd H b (·.setKid s p)) :=
  h.set b _ _ _ (fun x _ => by cases s <;> rfl)
theorem Lies.kid0 {w : World} {H : Hp} (h : Lies w H) (b : Nat) (p : Option Nat) : Lies (w.setCell ⟨b, 2, .none⟩ (.pointer (adr p))) (upd H b (·.setKid false p)) := h.kid b false p
theorem Lies.kid1 {w : World} {H : Hp} (h : Lies w H) (b : Nat) (p : Option Nat) : Lies (w.setCell ⟨b, 3, .none⟩ (.pointer (adr p))) (upd H b (·.setKid true p)) := h.kid b true p
theorem Lies.up {w : World} {H : Hp} (h : Lies w H) (b : Nat) (p : Option Nat) : Lies (w.setCell ⟨b, 4, .none⟩ (.pointer (adr p))) (upd H b (·.setUp p)) := h.set b _ _ _ (fun _ _ => rfl)
theorem Lies.n {w : World} {H : Hp} (h : Lies w H) (b : Nat) (n : Int) : Lies (w.setCell ⟨b, 5, .none⟩ (.int .i64 n)) (upd H b (·.setN n)) := h.set b _ _ _ (fun _ _ => rfl)
theorem Lies.red {w : World} {H : Hp} (h : Lies w H) (b : Nat) (r : Bool) : Lies (w.setCell ⟨b, 6, .none⟩ (.bool r)) (upd H b (·.setRed r)) := h.set b _ _ _ (fun _ _ => rfl)

/-- The tree's struct. -/
def TrAt (w : World) (tb : Nat) (root : Option Nat) (mb : Nat) : Prop := w.heap[tb]? = some (.cells #[.pointer (adr root), .map (some mb)] 91 (0, 0))
section
variable {w : World} {tb mb : Nat} {root : Option Nat}
theorem TrAt.c0 (h : TrAt w tb root mb) : w.cell? ⟨tb, 0, .none⟩ = some (.pointer (adr root)) := by simp [World.cell?, show w.heap[tb]? = _ from h]
theorem TrAt.c1 (h : TrAt w tb root mb) : w.cell? ⟨tb, 1, .none⟩ = some (.map (some mb)) := by simp [World.cell?, show w.heap[tb]? = _ from h]
theorem TrAt.fz (h : TrAt w tb root mb) (i : Nat) : w.frozen? ⟨tb, i, .none⟩ = false := by simp [World.frozen?, show w.heap[tb]? = _ from h]
theorem TrAt.lt (h : TrAt w tb root mb) : tb < w.heap.size := lt_of_block h
theorem TrAt.ne (h : TrAt w tb root mb) {b : Nat} {x : Nd} (hx : NdAt w b x) : b ≠ tb := by
  intro e
  subst e
  have := h.symm.trans hx
  simp [Nd.cells] at this
theorem TrAt.setRoot (h : TrAt w tb root mb) (p : Option Nat) : TrAt (w.setCell ⟨tb, 0, .none⟩ (.pointer (adr p))) tb p mb := by
  have := heap_setCell_self h 0 (.pointer (adr p))
  exact this
theorem TrAt.other (h : TrAt w tb root mb) (b i : Nat) (v : Value) (hb : b ≠ tb) : TrAt (w.setCell ⟨b, i, .none⟩ v) tb root mb :=
  (Below.heap_setCell w ⟨b, i, .none⟩ v tb (fun e => hb e.symm)).trans h
theorem TrAt.drew (h : TrAt w tb root mb) : TrAt w.drew tb root mb := h
theorem TrAt.drewN (h : TrAt w tb root mb) (n : Nat) : TrAt (w.drewN n) tb root mb := h
end

/-- Tree struct and nodes, together. -/
structure TR (w : World) (tb mb : Nat) (root : Option Nat) (H : Hp) : Prop where
  t : TrAt w tb root mb
  h : Lies w H

/-- The blocks that a tree's calls may turn (but its map). -/
def TS (tb : Nat) (H : Hp) (k : Nat) : Prop := k = tb ∨ (H k).isSome = true

section
variable {w : World} {tb mb : Nat} {root : Option Nat} {H : Hp}
theorem TR.none (h : TR w tb mb root H) : H tb = .none := by
  cases e : H tb with
  | none => rfl
  | some x => exact absurd rfl (h.t.ne (h.h tb x e))
theorem TR.set (h : TR w tb mb root H) (b i : Nat) (v : Value) (f : Nd → Nd) (hs : (H b).isSome = true) (hf : ∀ x, H b = some x → (f x).cells = x.cells.setIfInBounds i v) :
    TR (w.setCell ⟨b, i, .none⟩ v) tb mb root (upd H b f) := by
  obtain ⟨x, hx⟩ := Option.isSome_iff_exists.1 hs
  exact ⟨h.t.other b i v (h.t.ne (h.h b x hx)), h.h.set b i v f hf⟩
theorem TR.root' (h : TR w tb mb root H) (p : Option Nat) : TR (w.setCell ⟨tb, 0, .none⟩ (.pointer (adr p))) tb mb p H := ⟨h.t.setRoot p, h.h.other tb 0 _ h.none⟩
theorem TR.kid (h : TR w tb mb root H) (b : Nat) (s : Bool) (p : Option Nat) (hs : (H b).isSome = true) : TR (w.setCell ⟨b, 2 + (bi s).toNat, .none⟩ (.pointer (adr p))) tb mb root (upd H b (·.setKid s p)) :=
  h.set b _ _ _ hs (fun x _ => by cases s <;> rfl)
theorem TR.kid0 (h : TR w tb mb root H) (b : Nat) (p : Option Nat) (hs : (H b).isSome = true) : TR (w.setCell ⟨b, 2, .none⟩ (.pointer (adr p))) tb mb root (upd H b (·.setKid false p)) := h.kid b false p hs
theorem TR.kid1 (h : TR w tb mb root H) (b : Nat) (p : Option Nat) (hs : (H b).isSome = true) : TR (w.setCell ⟨b, 3, .none⟩ (.pointer (adr p))) tb mb root (upd H b (·.setKid true p)) := h.kid b true p hs
theorem TR.up (h : TR w tb mb root H) (b : Nat) (p : Option Nat) (hs : (H b).isSome = true) : TR (w.setCell ⟨b, 4, .none⟩ (.pointer (adr p))) tb mb root (upd H b (·.setUp p)) := h.set b _ _ _ hs (fun _ _ => rfl)
theorem TR.n (h : TR w tb mb root H) (b : Nat) (n : Int) (hs : (H b).isSome = true) : TR (w.setCell ⟨b, 5, .none⟩ (.int .i64 n)) tb mb root (upd H b (·.setN n)) := h.set b _ _ _ hs (fun _ _ => rfl)
theorem TR.red (h : TR w tb mb root H) (b : Nat) (r : Bool) (hs : (H b).isSome = true) : TR (w.setCell ⟨b, 6, .none⟩ (.bool r)) tb mb root (upd H b (·.setRed r)) := h.set b _ _ _ hs (fun _ _ => rfl)
theorem TR.drew (h : TR w tb mb root H) : TR w.drew tb mb root H := ⟨h.t, h.h⟩
theorem TR.drewN (h : TR w tb mb root H) (n : Nat) : TR (w.drewN n) tb mb root H := ⟨h.t, h.h⟩
end

/-! ### The small functions that only read -/
set_option maxHeartbeats 400000 in
theorem size_nil (w : World) : Calls Try.prog 47 #[.pointer .none] w fun e w' => e = .returned (.int .i64 0) ∧ w = w' := by
  go_enter Try.func47, Try.ntmps47
  go_wp2
  go_ret
  exact ⟨rfl, rfl⟩

set_option maxHeartbeats 400000 in
theorem size_at (w : World) (b : Nat) (x : Nd) (h : NdAt w b x) : Calls Try.prog 47 #[.pointer (some ⟨b, 0, .none⟩)] w fun e w' => e = .returned (.int .i64 x.n) ∧ w = w' := by
  have h5 := h.c5
  go_enter Try.func47, Try.ntmps47
  go_wp2
  go_ret
  exact ⟨rfl, rfl⟩

theorem size_any (w : World) (H : Hp) (hl : Lies w H) (p : Option Nat) (a : Int) (h : sizeH H p = some a) : Calls Try.prog 47 #[.pointer (adr p)] w fun e w' => e = .returned (.int .i64 a) ∧ w = w' := by
  cases p with
  | none => cases h; exact size_nil w
  | some b =>
    simp only [sizeH, Option.map_eq_some_iff] at h
    obtain ⟨x, hx, rfl⟩ := h
    exact size_at w b x (hl b x hx)

set_option maxHeartbeats 400000 in
theorem isRed_nil (w : World) : Calls Try.prog 73 #[.pointer .none] w fun e w' => e = .returned (.bool false) ∧ w = w' := by
  go_enter Try.func73, Try.ntmps73
  go_wp2
  go_ret
  exact ⟨rfl, rfl⟩

set_option maxHeartbeats 400000 in
theorem isRed_at (w : World) (b : Nat) (x : Nd) (h : NdAt w b x) : Calls Try.prog 73 #[.pointer (some ⟨b, 0, .none⟩)] w fun e w' => e = .returned (.bool x.red) ∧ w = w' := by
  have h5 := h.c6
  go_enter Try.func73, Try.ntmps73
  go_wp2
  go_ret
  exact ⟨rfl, rfl⟩

theorem isRed_any (w : World) (H : Hp) (hl : Lies w H) (p : Option Nat) (a : Bool) (h : redH H p = some a) : Calls Try.prog 73 #[.pointer (adr p)] w fun e w' => e = .returned (.bool a) ∧ w = w' := by
  cases p with
  | none => cases h; exact isRed_nil w
  | some b =>
    simp only [redH, Option.map_eq_some_iff] at h
    obtain ⟨x, hx, rfl⟩ := h
    exact isRed_at w b x (hl b x hx)

/-! ### Pointers against each other -/
theorem info95 : (Try.prog.info? 95).map (fun i => decide (i.size ≠ 0)) = some true := by kernel_rfl
theorem eql_nil_ptr (w : World) (a : Addr) : (binOp .eql 89 (.pointer .none) (.pointer (some a))).run Try.prog w = .ok (.bool false) w := by
  have h : ∀ d : Nat, (Op.equalIn (d + 1) 89 (.pointer .none) (.pointer (some a))).run Try.prog w = .ok false w := fun d => by
    simp [Op.equalIn, run_underlying Try.underlying89]
  simp only [binOp]
  simp [Op.equal, Op.maxDepth, h 9999]
theorem eql_same (w : World) (a : Addr) : (binOp .eql 89 (.pointer (some a)) (.pointer (some a))).run Try.prog w = .ok (.bool true) w := by
  have h := info95
  rw [Option.map_eq_some_iff] at h
  obtain ⟨j, hj, _⟩ := h
  exact run_eql_ptr_same w a Try.underlying89 hj
theorem eql_other (w : World) (b c : Nat) (x y : Nd) (hb : NdAt w b x) (hc : NdAt w c y) (h : c ≠ b) : (binOp .eql 89 (.pointer (some ⟨c, 0, .none⟩)) (.pointer (some ⟨b, 0, .none⟩))).run Try.prog w = .ok (.bool false) w := by
  have h' := info95
  rw [Option.map_eq_some_iff] at h'
  obtain ⟨j, hj, hs⟩ := h'
  exact run_eql_ptr_other w Try.underlying89 hj (by simpa using hs) (by simp) hc hb

set_option maxRecDepth 100000 in
set_option maxHeartbeats 400000 in
theorem which_root (w : World) (b : Nat) (c4 : w.cell? ⟨b, 4, .none⟩ = some (.pointer .none)) : Calls Try.prog 44 #[.pointer (some ⟨b, 0, .none⟩)] w fun e w' => e = .returned (.int .i64 0) ∧ w = w' := by
  go_enter Try.func44, Try.ntmps44
  go_wp2
  go_ret
  exact ⟨rfl, rfl⟩

set_option maxRecDepth 100000 in
set_option maxHeartbeats 400000 in
theorem which_at (w : World) (b u : Nat) (p : Option Addr) (r : Bool) (c4 : w.cell? ⟨b, 4, .none⟩ = some (.pointer (some ⟨u, 0, .none⟩))) (c3 : w.cell? ⟨u, 3, .none⟩ = some (.pointer p))
    (hr : (binOp .eql 89 (.pointer p) (.pointer (some ⟨b, 0, .none⟩))).run Try.prog w = .ok (.bool r) w) : Calls Try.prog 44 #[.pointer (some ⟨b, 0, .none⟩)] w fun e w' => e = .returned (.int .i64 (bi r)) ∧ w = w' := by
  cases r
  all_goals
    go_enter Try.func44, Try.ntmps44
    go_wp2
    go_ret
    exact ⟨rfl, rfl⟩

theorem which_any (w : World) (H : Hp) (hl : Lies w H) (b : Nat) (a : Bool) (h : whichH H b = some a) : Calls Try.prog 44 #[.pointer (some ⟨b, 0, .none⟩)] w fun e w' => e = .returned (.int .i64 (bi a)) ∧ w = w' := by
  simp only [whichH, Option.bind_eq_some_iff] at h
  obtain ⟨x, hx, h⟩ := h
  have c4 := (hl b x hx).c4
  cases hu : x.up with
  | none =>
    rw [hu] at h c4
    cases h
    exact which_root w b c4
  | some u =>
    rw [hu] at h c4
    simp only [Option.bind_eq_some_iff] at h
    obtain ⟨U, hU, h⟩ := h
    have c3 := (hl u U hU).c3
    cases hr : U.r with
    | none =>
      rw [hr] at c3 h
      cases h
      exact which_at w b u .none false c4 c3 (eql_nil_ptr w _)
    | some c =>
      rw [hr] at c3 h
      by_cases e : c = b
      · subst e
        simp only [if_true] at h
        cases h
        exact which_at w c u _ true c4 c3 (eql_same w _)
      · simp only [if_neg e, Option.map_eq_some_iff] at h
        obtain ⟨C, hC, rfl⟩ := h
        exact which_at w b u _ false c4 c3 (eql_other w b c x C (hl b x hx) (hl c C hC) e)

end Go.Proofs.Ytimhbnlgambcaaa
