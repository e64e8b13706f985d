/- The walks of New, made, listed, treed of a graph. -/
import Derived.Test.YtimhbnlgambcaaaGb
import Derived.Test.YtimhbnlgambcaaaNe
import Derived.Deep.RegionHeld3
namespace Go.Proofs.Ytimhbnlgambcaaa
open Go.RowKit Go.BigFrame

/-- A block of three cells that holds a place. -/
def PBox (W : World) (B : Nat) (p : Plc) : Prop := W.heap[B]? = some (.cells #[.int .i64 p.m, .int .i64 p.s, .int .i64 p.a] 55 (0, 0))
section
variable {W W' : World} {B : Nat} {p : Plc}
theorem PBox.lt (hb : PBox W B p) : B < W.heap.size := lt_of_block hb
theorem PBox.c0 (hb : PBox W B p) : W.cell? ⟨B, 0, .none⟩ = some (.int .i64 p.m) := by simp [World.cell?, show W.heap[B]? = _ from hb]
theorem PBox.c1 (hb : PBox W B p) : W.cell? ⟨B, 1, .none⟩ = some (.int .i64 p.s) := by simp [World.cell?, show W.heap[B]? = _ from hb]
theorem PBox.c2 (hb : PBox W B p) : W.cell? ⟨B, 2, .none⟩ = some (.int .i64 p.a) := by simp [World.cell?, show W.heap[B]? = _ from hb]
theorem PBox.fz (hb : PBox W B p) (i : Nat) : W.frozen? ⟨B, i, .none⟩ = false := by simp [World.frozen?, show W.heap[B]? = _ from hb]
theorem PBox.kp (hb : PBox W B p) {R : Nat → Prop} (hk : Kp R W W') (hn : ¬ R B) : PBox W' B p := (hk.block B hb.lt hn).trans hb
theorem PBox.kp0 (hb : PBox W B p) (hk : Kp (fun _ => False) W W') : PBox W' B p := hb.kp hk (fun h => h)
theorem HBox.kp0 {h : Hd} (hb : HBox W B h) (hk : Kp (fun _ => False) W W') : HBox W' B h := hb.kp hk (fun h => h)
end

section
variable {w : World} {gb rm im bm : Nat} {B : Plc → Option (Bool × Nat)} {In : Hd × Int → Option Plc} {By : Plc × Hd → Option Int}

set_option maxHeartbeats 400000 in
theorem graph_made (h : GM w gb rm im bm B In By) : Calls Try.prog 53 #[.pointer (some ⟨gb, 0, .none⟩)] w fun e w' => e = .returned (.bool true) ∧ w = w' := by
  have c0 := h.c0
  have qm := fun (w : World) (r : Option Nat) => run_neq_map_nil (P := Try.prog) w 103 _ _ r Try.underlying103
  go_enter Try.func53, Try.ntmps53
  go_wp2_with fail
  go_ret
  exact ⟨rfl, rfl⟩

theorem ta_nil_l (w : World) : (Instr.typeAssert .nilIface 119 108 true).run Try.prog w = .ok (.tuple #[.pointer .none, .bool false]) w := by kernel_rfl
theorem ta_nil_t (w : World) : (Instr.typeAssert .nilIface 119 24 true).run Try.prog w = .ok (.tuple #[.pointer .none, .bool false]) w := by kernel_rfl
theorem ta_ll (a : Addr) (w : World) : (Instr.typeAssert (.iface 108 (.pointer (some a))) 119 108 true).run Try.prog w = .ok (.tuple #[.pointer (some a), .bool true]) w := by kernel_rfl
theorem ta_lt (a : Addr) (w : World) : (Instr.typeAssert (.iface 108 (.pointer (some a))) 119 24 true).run Try.prog w = .ok (.tuple #[.pointer .none, .bool false]) w := by kernel_rfl
theorem ta_tl (a : Addr) (w : World) : (Instr.typeAssert (.iface 24 (.pointer (some a))) 119 108 true).run Try.prog w = .ok (.tuple #[.pointer .none, .bool false]) w := by kernel_rfl
theorem ta_tt (a : Addr) (w : World) : (Instr.typeAssert (.iface 24 (.pointer (some a))) 119 24 true).run Try.prog w = .ok (.tuple #[.pointer (some a), .bool true]) w := by kernel_rfl

theorem ne_nil_nil (w : World) : (binOp .neq 119 .nilIface .nilIface).run Try.prog w = .ok (.bool false) w := by kernel_rfl
theorem ne_l_nil (a : Addr) (w : World) : (binOp .neq 119 (.iface 108 (.pointer (some a))) .nilIface).run Try.prog w = .ok (.bool true) w := by kernel_rfl
theorem ne_t_nil (a : Addr) (w : World) : (binOp .neq 119 (.iface 24 (.pointer (some a))) .nilIface).run Try.prog w = .ok (.bool true) w := by kernel_rfl
theorem eq_nil_nil (w : World) : (binOp .eql 119 .nilIface .nilIface).run Try.prog w = .ok (.bool true) w := by kernel_rfl
theorem eq_l_nil (a : Addr) (w : World) : (binOp .eql 119 (.iface 108 (.pointer (some a))) .nilIface).run Try.prog w = .ok (.bool false) w := by kernel_rfl
theorem eq_t_nil (a : Addr) (w : World) : (binOp .eql 119 (.iface 24 (.pointer (some a))) .nilIface).run Try.prog w = .ok (.bool false) w := by kernel_rfl

/-- The block of the row of kind t at a place. -/
def rowp (B : Plc → Option (Bool × Nat)) (p : Plc) (t : Bool) : Option Nat := match B p with
  | some (t', b) => if t' = t then some b else .none
  | .none => .none

set_option maxRecDepth 100000 in
set_option maxHeartbeats 1000000 in
theorem graph_listed (h : GM w gb rm im bm B In By) (p : Plc) (hp : p.ok) : Calls Try.prog 54 #[.pointer (some ⟨gb, 0, .none⟩), .agg #[.int .i64 p.m, .int .i64 p.s, .int .i64 p.a]] w fun e w' => e = .returned (.pointer (adr (rowp B p false))) ∧ Kp (fun _ => False) w w' := by
  have q1 := ta_nil_l
  have q2 := ta_ll
  have q3 := ta_tl
  have c0 := h.c0
  have tl := h.lt
  have hlk := fun o k => (h.kp0 (w' := w.alloc o) ((Kp.refl _ _).alloc o)).lookR p hp k
  unfold rowp
  cases hB : B p with
  | none =>
    rw [hB] at hlk
    simp only [Option.map_none, Option.getD_none] at hlk
    go_enter Try.func54, Try.ntmps54
    go_wp2_with fail
    go_quiet (fail)
    go_wp2_with fail
    go_ret
    exact ⟨rfl, ((Kp.refl _ _).alloc _).drewN _⟩
  | some x =>
    obtain ⟨t, b⟩ := x
    rw [hB] at hlk
    simp only [Option.map_some, Option.getD_some] at hlk
    cases t with
    | false =>
      have hlk' : ∀ o k, Sem.run Try.prog (Instr.lookup 103 (.map (some rm)) (.agg #[.int .i64 p.m, .int .i64 p.s, .int .i64 p.a]) false) ((w.alloc o).drewN k) = .ok (.iface 108 (.pointer (some ⟨b, 0, .none⟩))) ((w.alloc o).drewN k) := hlk
      clear hlk
      go_enter Try.func54, Try.ntmps54
      go_wp2_with fail
      go_quiet (fail)
      go_wp2_with fail
      go_ret
      exact ⟨rfl, ((Kp.refl _ _).alloc _).drewN _⟩
    | true =>
      have hlk' : ∀ o k, Sem.run Try.prog (Instr.lookup 103 (.map (some rm)) (.agg #[.int .i64 p.m, .int .i64 p.s, .int .i64 p.a]) false) ((w.alloc o).drewN k) = .ok (.iface 24 (.pointer (some ⟨b, 0, .none⟩))) ((w.alloc o).drewN k) := hlk
      clear hlk
      go_enter Try.func54, Try.ntmps54
      go_wp2_with fail
      go_quiet (fail)
      go_wp2_with fail
      go_ret
      exact ⟨rfl, ((Kp.refl _ _).alloc _).drewN _⟩
set_option maxRecDepth 100000 in
set_option maxHeartbeats 1000000 in
theorem graph_treed (h : GM w gb rm im bm B In By) (p : Plc) (hp : p.ok) : Calls Try.prog 58 #[.pointer (some ⟨gb, 0, .none⟩), .agg #[.int .i64 p.m, .int .i64 p.s, .int .i64 p.a]] w fun e w' => e = .returned (.pointer (adr (rowp B p true))) ∧ Kp (fun _ => False) w w' := by
  have q1 := ta_nil_t
  have q2 := ta_lt
  have q3 := ta_tt
  have c0 := h.c0
  have tl := h.lt
  have hlk := fun o k => (h.kp0 (w' := w.alloc o) ((Kp.refl _ _).alloc o)).lookR p hp k
  unfold rowp
  cases hB : B p with
  | none =>
    rw [hB] at hlk
    simp only [Option.map_none, Option.getD_none] at hlk
    go_enter Try.func58, Try.ntmps58
    go_wp2_with fail
    go_quiet (fail)
    go_wp2_with fail
    go_ret
    exact ⟨rfl, ((Kp.refl _ _).alloc _).drewN _⟩
  | some x =>
    obtain ⟨t, b⟩ := x
    rw [hB] at hlk
    simp only [Option.map_some, Option.getD_some] at hlk
    cases t with
    | false =>
      have hlk' : ∀ o k, Sem.run Try.prog (Instr.lookup 103 (.map (some rm)) (.agg #[.int .i64 p.m, .int .i64 p.s, .int .i64 p.a]) false) ((w.alloc o).drewN k) = .ok (.iface 108 (.pointer (some ⟨b, 0, .none⟩))) ((w.alloc o).drewN k) := hlk
      clear hlk
      go_enter Try.func58, Try.ntmps58
      go_wp2_with fail
      go_quiet (fail)
      go_wp2_with fail
      go_ret
      exact ⟨rfl, ((Kp.refl _ _).alloc _).drewN _⟩
    | true =>
      have hlk' : ∀ o k, Sem.run Try.prog (Instr.lookup 103 (.map (some rm)) (.agg #[.int .i64 p.m, .int .i64 p.s, .int .i64 p.a]) false) ((w.alloc o).drewN k) = .ok (.iface 24 (.pointer (some ⟨b, 0, .none⟩))) ((w.alloc o).drewN k) := hlk
      clear hlk
      go_enter Try.func58, Try.ntmps58
      go_wp2_with fail
      go_quiet (fail)
      go_wp2_with fail
      go_ret
      exact ⟨rfl, ((Kp.refl _ _).alloc _).drewN _⟩

def mayErr (B : Plc → Option (Bool × Nat)) (In : Hd × Int → Option Plc) (By : Plc × Hd → Option Int) (p : Plc) (h : Hd) (n : Int) (fits : Bool) : Int :=
  if (In (h, n)).isSome then 7 else if (B p).isSome ∧ fits = false ∨ (By (p, h)).isSome then 3 else 0

set_option maxRecDepth 100000 in
set_option maxHeartbeats 2000000 in
theorem graph_may (h : GM w gb rm im bm B In By) (p : Plc) (hp : p.ok) (x : Hd) (hx : x.ok) (n : Int) (hn : (Lit.int .i64 n).wf = true) (fits : Bool) :
    Calls Try.prog 52 #[.pointer (some ⟨gb, 0, .none⟩), .agg #[.int .i64 p.m, .int .i64 p.s, .int .i64 p.a], .agg #[.int .i64 x.s, .int .u64 x.g], .int .i64 n, .bool fits] w fun e w' => e = .returned (.int .i64 (mayErr B In By p x n fits)) ∧ Kp (fun _ => False) w w' := by
  have hK0 : Kp (fun _ => False) w ((w.alloc (.cells #[.int .i64 p.m, .int .i64 p.s, .int .i64 p.a] 55)).alloc (.cells #[.int .i64 x.s, .int .u64 x.g] 34)) := ((Kp.refl _ _).alloc _).alloc _
  go_enter Try.func52, Try.ntmps52
  go_wp2_with fail
  refine (graph_made (h.kp0 hK0)).mono ?_
  rintro e w1 ⟨rfl, rfl⟩
  go_wp2_with fail
  have hP : PBox ((w.alloc (.cells #[.int .i64 p.m, .int .i64 p.s, .int .i64 p.a] 55)).alloc (.cells #[.int .i64 x.s, .int .u64 x.g] 34)) w.heap.size p := (Below.heap_alloc _ _ _ (by simp)).trans (heap_alloc_new w _)
  have hX : HBox ((w.alloc (.cells #[.int .i64 p.m, .int .i64 p.s, .int .i64 p.a] 55)).alloc (.cells #[.int .i64 x.s, .int .u64 x.g] 34)) (w.heap.size + 1) x := by
    have := heap_alloc_new (w.alloc (.cells #[.int .i64 p.m, .int .i64 p.s, .int .i64 p.a] 55)) (.cells #[.int .i64 x.s, .int .u64 x.g] 34)
    rw [World.size_alloc] at this
    exact this
  have hG := h.kp0 hK0
  generalize (w.alloc (.cells #[.int .i64 p.m, .int .i64 p.s, .int .i64 p.a] 55)).alloc (.cells #[.int .i64 x.s, .int .u64 x.g] 34) = W at hK0 hP hX hG ⊢
  have c1 := hG.c1
  have p0 := hP.c0
  have p1 := hP.c1
  have p2 := hP.c2
  have x0 := hX.c0
  have x1 := hX.c1
  have hlk : ∀ w', Kp (fun _ => False) W w' → Sem.run Try.prog (Instr.lookup 104 (.map (some im)) (.agg #[.int .i64 x.s, .int .u64 x.g, .int .i64 n]) true) w' = .ok (.tuple #[.agg #[.int .i64 ((In (x, n)).getD ⟨0, 0, 0⟩).m, .int .i64 ((In (x, n)).getD ⟨0, 0, 0⟩).s, .int .i64 ((In (x, n)).getD ⟨0, 0, 0⟩).a], .bool (In (x, n)).isSome]) w' := fun w' hk => (hG.kp0 hk).lookI x n hx hn
  have hS : ∀ w', Kp (fun _ => False) W w' → w'.cell? ⟨gb, 1, .none⟩ = some (.map (some im)) ∧ w'.cell? ⟨w.heap.size + 1, 0, .none⟩ = some (.int .i64 x.s) ∧ w'.cell? ⟨w.heap.size + 1, 1, .none⟩ = some (.int .u64 x.g) ∧
      Sem.run Try.prog (Instr.lookup 104 (.map (some im)) (.agg #[.int .i64 x.s, .int .u64 x.g, .int .i64 n]) true) w' = .ok (.tuple #[.agg #[.int .i64 ((In (x, n)).getD ⟨0, 0, 0⟩).m, .int .i64 ((In (x, n)).getD ⟨0, 0, 0⟩).s, .int .i64 ((In (x, n)).getD ⟨0, 0, 0⟩).a], .bool (In (x, n)).isSome]) w' :=
    fun w' hk => ⟨(hG.kp0 hk).c1, (hX.kp0 hk).c0, (hX.kp0 hk).c1, hlk w' hk⟩
  have hSh := Lib.hid hS
  clear hS hlk
  have hlt := hG.lt
  go_region_held3 (fun w' => w'.cell? ⟨gb, 1, .none⟩ = some (.map (some im)) ∧ w'.cell? ⟨w.heap.size + 1, 0, .none⟩ = some (.int .i64 x.s) ∧ w'.cell? ⟨w.heap.size + 1, 1, .none⟩ = some (.int .u64 x.g) ∧
      Sem.run Try.prog (Instr.lookup 104 (.map (some im)) (.agg #[.int .i64 x.s, .int .u64 x.g, .int .i64 n]) true) w' = .ok (.tuple #[.agg #[.int .i64 ((In (x, n)).getD ⟨0, 0, 0⟩).m, .int .i64 ((In (x, n)).getD ⟨0, 0, 0⟩).s, .int .i64 ((In (x, n)).getD ⟨0, 0, 0⟩).a], .bool (In (x, n)).isSome]) w')
    (first | exact hSh.out _ (Kp.refl _ W).drew | exact hSh.out _ ((Kp.refl _ W).alloc _).drew | exact hSh.out _ ((Kp.refl _ W).drew.alloc _)) (fail)
  all_goals
    have hK2 := (hK0.alloc (.cells #[.int .i64 ((In (x, n)).getD ⟨0, 0, 0⟩).m, .int .i64 ((In (x, n)).getD ⟨0, 0, 0⟩).s, .int .i64 ((In (x, n)).getD ⟨0, 0, 0⟩).a] 55)).drew
    have hK3 : Kp (fun _ => False) W ((W.alloc (.cells #[.int .i64 ((In (x, n)).getD ⟨0, 0, 0⟩).m, .int .i64 ((In (x, n)).getD ⟨0, 0, 0⟩).s, .int .i64 ((In (x, n)).getD ⟨0, 0, 0⟩).a] 55)).drew) := ((Kp.refl _ W).alloc _).drew
    have hG2 := hG.kp0 hK3
    have hP2 := hP.kp0 hK3
    have hX2 := hX.kp0 hK3
    generalize (W.alloc (.cells #[.int .i64 ((In (x, n)).getD ⟨0, 0, 0⟩).m, .int .i64 ((In (x, n)).getD ⟨0, 0, 0⟩).s, .int .i64 ((In (x, n)).getD ⟨0, 0, 0⟩).a] 55)).drew = W2 at hK2 hG2 hP2 hX2 ⊢
    clear hK3 hK0 hG hP hX c1 p0 p1 p2 x0 x1 hSh hlt
    have c2 := hG2.c2
    have p0 := hP2.c0
    have p1 := hP2.c1
    have p2 := hP2.c2
    have x0 := hX2.c0
    have x1 := hX2.c1
    have hlb := fun k => (hG2.kp0 ((Kp.refl _ W2).drewN k)).lookB p hp x hx
    go_wp2_with fail
    go_quiet (fail)
    have hG3 := hG2.kp0 ((Kp.refl _ W2).drewN nq)
    have hP3 := hP2.kp0 ((Kp.refl _ W2).drewN nq)
    have hK3 := hK2.drewN nq
    clear hlb c2 p0 p1 p2 x0 x1 hX2 hP2 hG2 hK2
    generalize W2.drewN nq = W3 at hG3 hP3 hK3 ⊢
    have c0 := hG3.c0
    have p0 := hP3.c0
    have p1 := hP3.c1
    have p2 := hP3.c2
    have hlr := fun k => hG3.lookR p hp k
    cases hIn : (In (x, n)).isSome with
    | true =>
      go_wp2_with fail
      refine bodyPost_ret (results_tmp rfl _ _ _) rfl ⟨?_, hK3⟩
      simp [mayErr, hIn]
    | false =>
      cases hB : B p with
      | none =>
        rw [hB] at hlr
        simp only [Option.map_none, Option.getD_none] at hlr
        have nn := ne_nil_nil
        go_wp2_with fail
        go_quiet (fail)
        cases hBy : (By (p, x)).isSome with
        | true =>
          go_wp2_with fail
          refine bodyPost_ret (results_tmp rfl _ _ _) rfl ⟨?_, hK3.drewN _⟩
          simp [mayErr, hIn, hB, hBy]
        | false =>
          go_wp2_with fail
          refine bodyPost_ret (results_tmp rfl _ _ _) rfl ⟨?_, hK3.drewN _⟩
          simp [mayErr, hIn, hB, hBy]
      | some r =>
        obtain ⟨t, b⟩ := r
        rw [hB] at hlr
        have n1 := ne_l_nil
        have n2 := ne_t_nil
        have hlr' : ∀ k, Sem.run Try.prog (Instr.lookup 103 (.map (some rm)) (.agg #[.int .i64 p.m, .int .i64 p.s, .int .i64 p.a]) false) (W3.drewN k) = .ok (.iface (if t = true then 24 else 108) (.pointer (some ⟨b, 0, .none⟩))) (W3.drewN k) := hlr
        clear hlr
        cases t with
        | true =>
          simp only [if_true] at hlr'
          cases fits with
          | false =>
            go_wp2_with fail
            go_quiet (fail)
            go_wp2_with fail
            refine bodyPost_ret (results_tmp rfl _ _ _) rfl ⟨?_, hK3.drewN _⟩
            simp [mayErr, hIn, hB]
          | true =>
            go_wp2_with fail
            go_quiet (fail)
            cases hBy : (By (p, x)).isSome with
            | true =>
              go_wp2_with fail
              refine bodyPost_ret (results_tmp rfl _ _ _) rfl ⟨?_, hK3.drewN _⟩
              simp [mayErr, hIn, hBy]
            | false =>
              go_wp2_with fail
              refine bodyPost_ret (results_tmp rfl _ _ _) rfl ⟨?_, hK3.drewN _⟩
              simp [mayErr, hIn, hBy]
        | false =>
          simp only [Bool.false_eq_true, if_false] at hlr'
          cases fits with
          | false =>
            go_wp2_with fail
            go_quiet (fail)
            go_wp2_with fail
            refine bodyPost_ret (results_tmp rfl _ _ _) rfl ⟨?_, hK3.drewN _⟩
            simp [mayErr, hIn, hB]
          | true =>
            go_wp2_with fail
            go_quiet (fail)
            cases hBy : (By (p, x)).isSome with
            | true =>
              go_wp2_with fail
              refine bodyPost_ret (results_tmp rfl _ _ _) rfl ⟨?_, hK3.drewN _⟩
              simp [mayErr, hIn, hBy]
            | false =>
              go_wp2_with fail
              refine bodyPost_ret (results_tmp rfl _ _ _) rfl ⟨?_, hK3.drewN _⟩
              simp [mayErr, hIn, hBy]
end
end Go.Proofs.Ytimhbnlgambcaaa
