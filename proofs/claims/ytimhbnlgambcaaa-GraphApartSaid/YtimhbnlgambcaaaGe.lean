/- A row of either kind; the walks of Len, Kind, At, goes of a graph. -/
import Derived.Test.YtimhbnlgambcaaaGd
namespace Go.Proofs.Ytimhbnlgambcaaa
open Go.RowKit Go.BigFrame

/-- At block b lies a row of kind t (a tree, or a list) of the handles L, through the blocks S. -/
def RowAt (w : World) (t : Bool) (b : Nat) (S : Nat → Prop) (L : List Hd) : Prop := match t with
  | true => TreeAt w b S L
  | false => ListAt w b S L
section
variable {w w' : World} {t : Bool} {b : Nat} {S : Nat → Prop} {L : List Hd}
theorem RowAt.lt (h : RowAt w t b S L) {k : Nat} (hk : S k) : k < w.heap.size := by
  cases t
  · exact ListAt.lt h hk
  · exact TreeAt.lt h hk
theorem RowAt.self (h : RowAt w t b S L) : S b := by
  cases t
  · exact ListAt.self h
  · exact TreeAt.self h
theorem RowAt.kp (h : RowAt w t b S L) {R : Nat → Prop} (hk : Kp R w w') (hd : ∀ k, S k → ¬ R k) : RowAt w' t b S L := by
  cases t
  · exact ListAt.kp h hk hd
  · exact TreeAt.kp h hk hd
theorem RowAt.kp0 (h : RowAt w t b S L) (hk : Kp (fun _ => False) w w') : RowAt w' t b S L := h.kp hk (fun _ _ h => h)
theorem RowAt.nodup (h : RowAt w t b S L) : L.Nodup := by
  cases t
  · exact ListAt.nodup h
  · exact TreeAt.nodup h
theorem RowAt.ok (h : RowAt w t b S L) : ∀ x ∈ L, x.ok := by
  cases t
  · exact ListAt.ok h
  · exact TreeAt.ok h
end

theorem m_len_l (a : Addr) (w : World) : (method 288 108 (.pointer (some a)) "Len").run Try.prog w = .ok (124, .pointer (some a)) w := by kernel_rfl
theorem m_len_t (a : Addr) (w : World) : (method 288 24 (.pointer (some a)) "Len").run Try.prog w = .ok (22, .pointer (some a)) w := by kernel_rfl
theorem m_all_l (a : Addr) (w : World) : (method 288 108 (.pointer (some a)) "All").run Try.prog w = .ok (123, .pointer (some a)) w := by kernel_rfl
theorem m_all_t (a : Addr) (w : World) : (method 288 24 (.pointer (some a)) "All").run Try.prog w = .ok (23, .pointer (some a)) w := by kernel_rfl

section
variable {w w' : World} {gb rm im bm : Nat} {B : Plc → Option (Bool × Nat)} {In : Hd × Int → Option Plc} {By : Plc × Hd → Option Int}
set_option maxRecDepth 100000 in
set_option maxHeartbeats 1000000 in
theorem glen_some (h : GM w gb rm im bm B In By) (p : Plc) (hp : p.ok) {t : Bool} {b : Nat} (hB : B p = some (t, b)) {S : Nat → Prop} {L : List Hd} (hr : RowAt w t b S L) :
    Calls Try.prog 31 #[.pointer (some ⟨gb, 0, .none⟩), .agg #[.int .i64 p.m, .int .i64 p.s, .int .i64 p.a]] w fun e w' => e = .returned (.int .i64 L.length) ∧ Kp (fun _ => False) w w' := by
  have hK0 : Kp (fun _ => False) w (w.alloc (.cells #[.int .i64 p.m, .int .i64 p.s, .int .i64 p.a] 55)) := (Kp.refl _ _).alloc _
  have hP : PBox (w.alloc (.cells #[.int .i64 p.m, .int .i64 p.s, .int .i64 p.a] 55)) w.heap.size p := heap_alloc_new w _
  have hG := h.kp0 hK0
  have hR := hr.kp0 hK0
  go_enter Try.func31, Try.ntmps31
  go_wp2_with fail
  generalize w.alloc (.cells #[.int .i64 p.m, .int .i64 p.s, .int .i64 p.a] 55) = W at hK0 hP hG hR ⊢
  have p0 := hP.c0
  have p1 := hP.c1
  have p2 := hP.c2
  have c0 := hG.c0
  have hlk := fun k => hG.lookR p hp k
  rw [hB] at hlk
  have n1 := eq_l_nil
  have n2 := eq_t_nil
  have hmd : ∀ k, Calls Try.prog 53 #[.pointer (some ⟨gb, 0, .none⟩)] (W.drewN k) fun e w' => e = .returned (.bool true) ∧ W.drewN k = w' := fun k => graph_made (hG.kp0 ((Kp.refl _ W).drewN k))
  cases t with
  | false =>
    have hlk' : ∀ k, Sem.run Try.prog (Instr.lookup 103 (.map (some rm)) (.agg #[.int .i64 p.m, .int .i64 p.s, .int .i64 p.a]) false) (W.drewN k) = .ok (.iface 108 (.pointer (some ⟨b, 0, .none⟩))) (W.drewN k) := hlk
    clear hlk
    go_quiet ((go_at_call 53; exact Calls.quiet_of_same (calls_same (hmd _))))
    have hK1 := hK0.drewN nq
    have hG1 := hG.kp0 ((Kp.refl _ W).drewN nq)
    have hR1 := hR.kp0 ((Kp.refl _ W).drewN nq)
    have hP1 := hP.kp0 ((Kp.refl _ W).drewN nq)
    clear hlk' hmd p0 p1 p2 c0 hP hG hR hK0
    generalize W.drewN nq = W1 at hK1 hG1 hR1 hP1 ⊢
    have p0 := hP1.c0
    have p1 := hP1.c1
    have p2 := hP1.c2
    have c0 := hG1.c0
    have hlk := fun k => hG1.lookR p hp k
    rw [hB] at hlk
    have hlk' : ∀ k, Sem.run Try.prog (Instr.lookup 103 (.map (some rm)) (.agg #[.int .i64 p.m, .int .i64 p.s, .int .i64 p.a]) false) (W1.drewN k) = .ok (.iface 108 (.pointer (some ⟨b, 0, .none⟩))) (W1.drewN k) := hlk
    clear hlk
    go_wp2_with fail
    refine wp_region_quiet_lit (by kernel_rfl) (by kernel_rfl) ?_
    have m1 := m_len_l
    have hln : ∀ k, Calls Try.prog 124 #[.pointer (some ⟨b, 0, .none⟩)] (W1.drewN k) fun e w' => e = .returned (.int .i64 L.length) ∧ w' = W1.drewN k := fun k => list_len (hR1.kp0 ((Kp.refl _ W1).drewN k))
    repeat (any_goals (first | go_big_quiet_step (((go_at_call 124; exact Calls.quiet_of_same (hln _))))))
    refine wpQuiet_nil ?_
    rintro w2 ⟨k, rfl⟩
    go_wp2_with fail
    go_ret
    exact ⟨rfl, hK1.drewN k⟩
  | true =>
    have hlk' : ∀ k, Sem.run Try.prog (Instr.lookup 103 (.map (some rm)) (.agg #[.int .i64 p.m, .int .i64 p.s, .int .i64 p.a]) false) (W.drewN k) = .ok (.iface 24 (.pointer (some ⟨b, 0, .none⟩))) (W.drewN k) := hlk
    clear hlk
    go_quiet ((go_at_call 53; exact Calls.quiet_of_same (calls_same (hmd _))))
    have hK1 := hK0.drewN nq
    have hG1 := hG.kp0 ((Kp.refl _ W).drewN nq)
    have hR1 := hR.kp0 ((Kp.refl _ W).drewN nq)
    have hP1 := hP.kp0 ((Kp.refl _ W).drewN nq)
    clear hlk' hmd p0 p1 p2 c0 hP hG hR hK0
    generalize W.drewN nq = W1 at hK1 hG1 hR1 hP1 ⊢
    have p0 := hP1.c0
    have p1 := hP1.c1
    have p2 := hP1.c2
    have c0 := hG1.c0
    have hlk := fun k => hG1.lookR p hp k
    rw [hB] at hlk
    have hlk' : ∀ k, Sem.run Try.prog (Instr.lookup 103 (.map (some rm)) (.agg #[.int .i64 p.m, .int .i64 p.s, .int .i64 p.a]) false) (W1.drewN k) = .ok (.iface 24 (.pointer (some ⟨b, 0, .none⟩))) (W1.drewN k) := hlk
    clear hlk
    go_wp2_with fail
    refine wp_region_quiet_lit (by kernel_rfl) (by kernel_rfl) ?_
    have m1 := m_len_t
    have hln : ∀ k, Calls Try.prog 22 #[.pointer (some ⟨b, 0, .none⟩)] (W1.drewN k) fun e w' => e = .returned (.int .i64 L.length) ∧ w' = W1.drewN k := fun k => calls_same (tree_len (TreeAt.kp hR1 ((Kp.refl (fun _ => False) W1).drewN k) (fun _ _ h => h)))
    repeat (any_goals (first | go_big_quiet_step (((go_at_call 22; exact Calls.quiet_of_same (hln _))))))
    refine wpQuiet_nil ?_
    rintro w2 ⟨k, rfl⟩
    go_wp2_with fail
    go_ret
    exact ⟨rfl, hK1.drewN k⟩

set_option maxRecDepth 100000 in
set_option maxHeartbeats 1000000 in
theorem glen_none (h : GM w gb rm im bm B In By) (p : Plc) (hp : p.ok) (hB : B p = .none) :
    Calls Try.prog 31 #[.pointer (some ⟨gb, 0, .none⟩), .agg #[.int .i64 p.m, .int .i64 p.s, .int .i64 p.a]] w fun e w' => e = .returned (.int .i64 0) ∧ Kp (fun _ => False) w w' := by
  have hK0 : Kp (fun _ => False) w (w.alloc (.cells #[.int .i64 p.m, .int .i64 p.s, .int .i64 p.a] 55)) := (Kp.refl _ _).alloc _
  have hP : PBox (w.alloc (.cells #[.int .i64 p.m, .int .i64 p.s, .int .i64 p.a] 55)) w.heap.size p := heap_alloc_new w _
  have hG := h.kp0 hK0
  go_enter Try.func31, Try.ntmps31
  go_wp2_with fail
  generalize w.alloc (.cells #[.int .i64 p.m, .int .i64 p.s, .int .i64 p.a] 55) = W at hK0 hP hG ⊢
  have p0 := hP.c0
  have p1 := hP.c1
  have p2 := hP.c2
  have c0 := hG.c0
  have hlk := fun k => hG.lookR p hp k
  rw [hB] at hlk
  have hlk' : ∀ k, Sem.run Try.prog (Instr.lookup 103 (.map (some rm)) (.agg #[.int .i64 p.m, .int .i64 p.s, .int .i64 p.a]) false) (W.drewN k) = .ok .nilIface (W.drewN k) := hlk
  clear hlk
  have n1 := eq_nil_nil
  have hmd : ∀ k, Calls Try.prog 53 #[.pointer (some ⟨gb, 0, .none⟩)] (W.drewN k) fun e w' => e = .returned (.bool true) ∧ W.drewN k = w' := fun k => graph_made (hG.kp0 ((Kp.refl _ W).drewN k))
  go_quiet ((go_at_call 53; exact Calls.quiet_of_same (calls_same (hmd _))))
  go_wp2_with fail
  go_ret
  exact ⟨rfl, hK0.drewN nq⟩

/-- The kind of what is at a place: nothing (0), a list (1), a tree (2). -/
def kindOf (B : Plc → Option (Bool × Nat)) (p : Plc) : Int := match B p with
  | .none => 0
  | some (false, _) => 1
  | some (true, _) => 2

set_option maxRecDepth 100000 in
set_option maxHeartbeats 1000000 in
theorem gkind_none (h : GM w gb rm im bm B In By) (p : Plc) (hp : p.ok) (hB : B p = .none) :
    Calls Try.prog 32 #[.pointer (some ⟨gb, 0, .none⟩), .agg #[.int .i64 p.m, .int .i64 p.s, .int .i64 p.a]] w fun e w' => e = .returned (.int .u8 0) ∧ Kp (fun _ => False) w w' := by
  have hK0 : Kp (fun _ => False) w (w.alloc (.cells #[.int .i64 p.m, .int .i64 p.s, .int .i64 p.a] 55)) := (Kp.refl _ _).alloc _
  have hP : PBox (w.alloc (.cells #[.int .i64 p.m, .int .i64 p.s, .int .i64 p.a] 55)) w.heap.size p := heap_alloc_new w _
  have hG := h.kp0 hK0
  go_enter Try.func32, Try.ntmps32
  go_wp2_with fail
  refine (glen_none hG p hp hB).mono ?_
  rintro e w1 ⟨rfl, hk1⟩
  go_wp2_with fail
  go_ret
  exact ⟨rfl, hK0.trans hk1⟩
set_option maxRecDepth 100000 in
set_option maxHeartbeats 1000000 in
theorem gkind_some (h : GM w gb rm im bm B In By) (p : Plc) (hp : p.ok) {t : Bool} {b : Nat} (hB : B p = some (t, b)) {S : Nat → Prop} {L : List Hd} (hr : RowAt w t b S L) (hL : L ≠ []) :
    Calls Try.prog 32 #[.pointer (some ⟨gb, 0, .none⟩), .agg #[.int .i64 p.m, .int .i64 p.s, .int .i64 p.a]] w fun e w' => e = .returned (.int .u8 (kindOf B p)) ∧ Kp (fun _ => False) w w' := by
  have hK0 : Kp (fun _ => False) w (w.alloc (.cells #[.int .i64 p.m, .int .i64 p.s, .int .i64 p.a] 55)) := (Kp.refl _ _).alloc _
  have hP : PBox (w.alloc (.cells #[.int .i64 p.m, .int .i64 p.s, .int .i64 p.a] 55)) w.heap.size p := heap_alloc_new w _
  have hG := h.kp0 hK0
  have hR := hr.kp0 hK0
  have hl : ((L.length : Int) == 0) = false := by
    cases L with
    | nil => exact absurd rfl hL
    | cons a r => simp; omega
  have hrow : rowp B p false = if t then .none else some b := by unfold rowp; rw [hB]; cases t <;> rfl
  have hkd : kindOf B p = if t then 2 else 1 := by unfold kindOf; rw [hB]; cases t <;> rfl
  rw [hkd]
  cases t
  all_goals
    go_enter Try.func32, Try.ntmps32
    go_wp2_with fail
    refine (glen_some hG p hp hB hR).mono ?_
    rintro e w1 ⟨rfl, hk1⟩
    have hP1 := hP.kp0 hk1
    have p0 := hP1.c0
    have p1 := hP1.c1
    have p2 := hP1.c2
    go_wp2_with fail
    refine (graph_listed (hG.kp0 hk1) p hp).mono ?_
    rintro e w2 ⟨rfl, hk2⟩
    rw [hrow]
    simp only [Bool.false_eq_true, if_false, if_true, adr_some, adr_none]
    go_wp2_with fail
    go_ret
    exact ⟨rfl, (hK0.trans hk1).trans hk2⟩
end
end Go.Proofs.Ytimhbnlgambcaaa
