/- The walk of At of a graph. -/
import Derived.Test.YtimhbnlgambcaaaGe
import Derived.Deep.RegionWith
namespace Go.Proofs.Ytimhbnlgambcaaa
open Go.RowKit Go.BigFrame

/-- What At says of a place in a row. -/
def GAt (L : List Hd) (i : Int) (y : Hd) (is : Bool) : Prop := (∃ k : Nat, i = k ∧ L[k]? = some y ∧ is = true) ∨ (¬ (0 ≤ i ∧ i < L.length) ∧ y = ⟨0, 0⟩ ∧ is = false)
theorem GAt.of (L : List Hd) (p : Int) : ∃ y is, GAt L p y is := by
  by_cases h : 0 ≤ p ∧ p < L.length
  · obtain ⟨k, rfl⟩ : ∃ k : Nat, p = k := ⟨p.toNat, by omega⟩
    exact ⟨_, true, .inl ⟨k, rfl, List.getElem?_eq_getElem (by omega), rfl⟩⟩
  · exact ⟨_, false, .inr ⟨h, rfl, rfl⟩⟩

section
variable {w w' : World} {gb rm im bm : Nat} {B : Plc → Option (Bool × Nat)} {In : Hd × Int → Option Plc} {By : Plc × Hd → Option Int}
theorem two_new (w : World) (o1 o2 : Obj) : ((w.alloc o1).alloc o2).heap[w.heap.size]? = some o1 ∧ ((w.alloc o1).alloc o2).heap[w.heap.size + 1]? = some o2 := by
  refine ⟨(Below.heap_alloc _ _ _ (by simp)).trans (heap_alloc_new w _), ?_⟩
  have := heap_alloc_new (w.alloc o1) o2
  rw [World.size_alloc] at this
  exact this

set_option maxRecDepth 100000 in
set_option maxHeartbeats 1000000 in
theorem gat_neg (gb : Nat) (p : Plc) (i : Int) (hi : i < 0) :
    Calls Try.prog 33 #[.pointer (some ⟨gb, 0, .none⟩), .agg #[.int .i64 p.m, .int .i64 p.s, .int .i64 p.a], .int .i64 i] w fun e w' => e = .returned (.tuple #[.agg #[.int .i64 0, .int .u64 0], .bool false]) ∧ Kp (fun _ => False) w w' := by
  have hd : decide (i < 0) = true := by simpa using hi
  go_enter Try.func33, Try.ntmps33
  go_wp2_with fail
  exact bodyPost_ret (v := .tuple #[.agg #[.int .i64 0, .int .u64 0], .bool false]) (by simp [results, Try.results33, go_sem]) rfl ⟨rfl, ((Kp.refl _ _).alloc _).alloc _⟩

set_option maxRecDepth 100000 in
set_option maxHeartbeats 1000000 in
theorem gat_big (gb : Nat) (p : Plc) (i : Int) (hi : 0 ≤ i) (n : Nat) (hn : (n : Int) ≤ i)
    (hl : ∀ w1, Kp (fun _ => False) w w1 → Calls Try.prog 31 #[.pointer (some ⟨gb, 0, .none⟩), .agg #[.int .i64 p.m, .int .i64 p.s, .int .i64 p.a]] w1 fun e w' => e = .returned (.int .i64 n) ∧ Kp (fun _ => False) w1 w') :
    Calls Try.prog 33 #[.pointer (some ⟨gb, 0, .none⟩), .agg #[.int .i64 p.m, .int .i64 p.s, .int .i64 p.a], .int .i64 i] w fun e w' => e = .returned (.tuple #[.agg #[.int .i64 0, .int .u64 0], .bool false]) ∧ Kp (fun _ => False) w w' := by
  have hd : decide (i < 0) = false := by simpa using hi
  have hd2 : decide ((n : Int) ≤ i) = true := by simpa using hn
  have hK0 : Kp (fun _ => False) w ((w.alloc (.cells #[.int .i64 p.m, .int .i64 p.s, .int .i64 p.a] 55)).alloc (.cells #[.int .i64 0, .int .u64 0] 34)) := ((Kp.refl _ _).alloc _).alloc _
  obtain ⟨_, hz⟩ := two_new w (.cells #[.int .i64 p.m, .int .i64 p.s, .int .i64 p.a] 55) (.cells #[.int .i64 0, .int .u64 0] 34)
  have hZ : HBox ((w.alloc (.cells #[.int .i64 p.m, .int .i64 p.s, .int .i64 p.a] 55)).alloc (.cells #[.int .i64 0, .int .u64 0] 34)) (w.heap.size + 1) ⟨0, 0⟩ := hz
  clear hz
  go_enter Try.func33, Try.ntmps33
  go_wp2_with fail
  refine (hl _ hK0).mono ?_
  rintro e w1 ⟨rfl, hk1⟩
  have hZ1 := hZ.kp0 hk1
  have hK1 := hK0.trans hk1
  have q0 := hZ1.c0
  have q1 := hZ1.c1
  have qf := hZ1.fz
  have ql := hZ1.lt
  clear hl
  go_wp2_with fail
  exact bodyPost_ret (v := .tuple #[.agg #[.int .i64 0, .int .u64 0], .bool false]) (by simp [results, Try.results33, go_sem, q0, q1]) rfl ⟨rfl, (hK1.setNew _ _ _ (by omega)).setNew _ _ _ (by omega)⟩

set_option maxRecDepth 100000 in
set_option maxHeartbeats 2000000 in
theorem gat_in (h : GM w gb rm im bm B In By) (p : Plc) (hp : p.ok) {t : Bool} {b : Nat} (hB : B p = some (t, b)) {S : Nat → Prop} {L : List Hd} (hr : RowAt w t b S L) (small : L.length ≤ 1000000) (i : Nat) (y : Hd) (hy : L[i]? = some y) :
    Calls Try.prog 33 #[.pointer (some ⟨gb, 0, .none⟩), .agg #[.int .i64 p.m, .int .i64 p.s, .int .i64 p.a], .int .i64 i] w fun e w' => e = .returned (.tuple #[.agg #[.int .i64 y.s, .int .u64 y.g], .bool true]) ∧ Kp (fun _ => False) w w' := by
  have hil : i < L.length := (List.getElem?_eq_some_iff.1 hy).1
  have hi1 : (i : Int) < L.length := by omega
  have hi0 : (0 : Int) ≤ i := by omega
  have hsm : (L.length : Int) ≤ 1000000 := by omega
  have hK0 : Kp (fun _ => False) w ((w.alloc (.cells #[.int .i64 p.m, .int .i64 p.s, .int .i64 p.a] 55)).alloc (.cells #[.int .i64 0, .int .u64 0] 34)) := ((Kp.refl _ _).alloc _).alloc _
  obtain ⟨hp1, hz⟩ := two_new w (.cells #[.int .i64 p.m, .int .i64 p.s, .int .i64 p.a] 55) (.cells #[.int .i64 0, .int .u64 0] 34)
  have hP : PBox ((w.alloc (.cells #[.int .i64 p.m, .int .i64 p.s, .int .i64 p.a] 55)).alloc (.cells #[.int .i64 0, .int .u64 0] 34)) w.heap.size p := hp1
  have hZ : HBox ((w.alloc (.cells #[.int .i64 p.m, .int .i64 p.s, .int .i64 p.a] 55)).alloc (.cells #[.int .i64 0, .int .u64 0] 34)) (w.heap.size + 1) ⟨0, 0⟩ := hz
  clear hz hp1
  have hG := h.kp0 hK0
  have hR := hr.kp0 hK0
  have hrow : rowp B p true = if t then some b else .none := by unfold rowp; rw [hB]
  have hyh := Lib.hid hy
  have hrh := Lib.hid hrow
  have hBh := Lib.hid hB
  clear hy hrow hB
  go_enter Try.func33, Try.ntmps33
  go_wp2_with fail
  refine (glen_some hG p hp hBh.out hR).mono ?_
  rintro e w1 ⟨rfl, hk1⟩
  have hG1 := hG.kp0 hk1
  have hR1 := hR.kp0 hk1
  have hP1 := hP.kp0 hk1
  have hZ1 := hZ.kp0 hk1
  have hK1 := hK0.trans hk1
  clear hk1 hK0 hP hZ hG hR
  have p0 := hP1.c0
  have p1 := hP1.c1
  have p2 := hP1.c2
  go_wp2_with fail
  refine (graph_treed hG1 p hp).mono ?_
  rintro e w2 ⟨rfl, hk2⟩
  rw [hrh.out]
  have hG2 := hG1.kp0 hk2
  have hR2 := hR1.kp0 hk2
  have hP2 := hP1.kp0 hk2
  have hZ2 := hZ1.kp0 hk2
  have hK2 := hK1.trans hk2
  clear hk2 hK1 hP1 hZ1 hG1 hR1 p0 p1 p2
  cases t with
  | true =>
    simp only [if_true, adr_some]
    go_wp2_with fail
    refine (tree_at (show TreeAt w2 b S L from hR2) i (by omega)).mono ?_
    rintro e w3 ⟨he, _, hk3⟩
    obtain rfl : e = .returned (.tuple #[.agg #[.int .i64 y.s, .int .u64 y.g], .bool true]) := by
      rcases he with ⟨hn, _⟩ | ⟨j, z, hj, hz, e⟩
      · exact absurd ⟨hi0, hi1⟩ hn
      · obtain rfl : i = j := by omega
        rw [hyh.out] at hz
        cases hz
        exact e
    have hZ3 := hZ2.kp0 hk3
    have hK3 := hK2.trans hk3
    have q0 := hZ3.c0
    have q1 := hZ3.c1
    have qf := hZ3.fz
    have ql := hZ3.lt
    go_wp2_with fail
    exact bodyPost_ret (v := .tuple #[.agg #[.int .i64 y.s, .int .u64 y.g], .bool true]) (by simp [results, Try.results33, go_sem, q0, q1]) rfl ⟨rfl, (hK3.setNew _ _ _ (by omega)).setNew _ _ _ (by omega)⟩
  | false =>
    simp only [Bool.false_eq_true, if_false, adr_none]
    have p0 := hP2.c0
    have p1 := hP2.c1
    have p2 := hP2.c2
    have c0 := hG2.c0
    have q0 := hZ2.c0
    have q1 := hZ2.c1
    have qf := hZ2.fz
    have ql := hZ2.lt
    have m1 := m_all_l
    have hlk := fun k => hG2.lookR p hp k
    rw [hBh.out] at hlk
    have hlk' : Sem.run Try.prog (Instr.lookup 103 (.map (some rm)) (.agg #[.int .i64 p.m, .int .i64 p.s, .int .i64 p.a]) false) w2.drew = .ok (.iface 108 (.pointer (some ⟨b, 0, .none⟩))) w2.drew := hlk 1
    clear hlk
    go_wp2_with fail
    go_region_with (go_at_call 123; refine (list_all (ListAt.kp0 (show ListAt w2 b S L from hR2) (Kp.refl _ _).drew) small).mono ?_; rintro e w3 ⟨v, rfl, hown, _, hbel⟩; obtain ⟨g, c, rfl, hg, hgl⟩ := hown.form (Nat.lt_of_le_of_lt (Nat.zero_le i) hil); have y0 := hown.cellAt (i * 2) (by omega); have y1 := hown.cellAt (i * 2 + 1) (by omega); rw [(flatH_at hyh.out).1] at y0; rw [(flatH_at hyh.out).2] at y1; have z0 := (hbel.cell (p := ⟨w.heap.size + 1, 0, .none⟩) ql).trans q0; have z1 := (hbel.cell (p := ⟨w.heap.size + 1, 1, .none⟩) ql).trans q1; have zf := fun i => (hbel.frozen (p := ⟨w.heap.size + 1, i, .none⟩) ql).trans (qf i))
    all_goals
      have hK3 : Kp (fun _ => False) w w3 := hK2.drew.trans ⟨hbel.os, hbel.tape, hbel.output, hbel.size, fun k hk _ => hbel.block k hk⟩
      go_wp2_with fail
      exact bodyPost_ret (v := .tuple #[.agg #[.int .i64 y.s, .int .u64 y.g], .bool true]) (by simp [results, Try.results33, go_sem, z0, z1]) rfl ⟨rfl, (hK3.setNew _ _ _ (by omega)).setNew _ _ _ (by omega)⟩
end
end Go.Proofs.Ytimhbnlgambcaaa
