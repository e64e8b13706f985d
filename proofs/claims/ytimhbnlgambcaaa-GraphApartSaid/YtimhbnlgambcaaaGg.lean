/- The walk of goes of a graph. -/
import Derived.Test.YtimhbnlgambcaaaGe
namespace Go.Proofs.Ytimhbnlgambcaaa
open Go.RowKit Go.BigFrame

def MS (rm im bm : Nat) (k : Nat) : Prop := k = rm ∨ k = im ∨ k = bm
section
variable {w w' : World} {gb rm im bm : Nat} {B : Plc → Option (Bool × Nat)} {In : Hd × Int → Option Plc} {By : Plc × Hd → Option Int}

/-- What goes leaves. -/
def GoesPost (w : World) (gb rm im bm : Nat) (B' : Plc → Option (Bool × Nat)) (In' : Hd × Int → Option Plc) (By' : Plc × Hd → Option Int) (w' : World) : Prop := GM w' gb rm im bm B' In' By' ∧ Kp (MS rm im bm) w w'

set_option maxRecDepth 100000 in
set_option maxHeartbeats 4000000 in
theorem graph_goes (h : GM w gb rm im bm B In By) (p : Plc) (hp : p.ok) (x : Hd) (hx : x.ok) (n : Int) (hn : (Lit.int .i64 n).wf = true) (hby : By (p, x) = some n) {t : Bool} {b : Nat} (hB : B p = some (t, b)) {S : Nat → Prop} {L : List Hd} (hr : RowAt w t b S L)
    (hd : ∀ k, S k → ¬ MS rm im bm k) :
    Calls Try.prog 60 #[.pointer (some ⟨gb, 0, .none⟩), .agg #[.int .i64 p.m, .int .i64 p.s, .int .i64 p.a], .agg #[.int .i64 x.s, .int .u64 x.g]] w fun e w' =>
      e = .returned (.tuple #[]) ∧ GoesPost w gb rm im bm (if L = [] then edel B p else B) (edel In (x, n)) (edel By (p, x)) w' := by
  obtain ⟨kr, hkr⟩ := key55 p hp
  obtain ⟨ki, hki⟩ := key117 (x, n) hx hn
  obtain ⟨kb, hkb⟩ := key122 (p, x) hp hx
  have hK0 : Kp (fun _ => False) w ((w.alloc (.cells #[.int .i64 p.m, .int .i64 p.s, .int .i64 p.a] 55)).alloc (.cells #[.int .i64 x.s, .int .u64 x.g] 34)) := ((Kp.refl _ _).alloc _).alloc _
  have hP : PBox ((w.alloc (.cells #[.int .i64 p.m, .int .i64 p.s, .int .i64 p.a] 55)).alloc (.cells #[.int .i64 x.s, .int .u64 x.g] 34)) w.heap.size p := (Below.heap_alloc _ _ _ (by simp)).trans (heap_alloc_new w _)
  have hX : HBox ((w.alloc (.cells #[.int .i64 p.m, .int .i64 p.s, .int .i64 p.a] 55)).alloc (.cells #[.int .i64 x.s, .int .u64 x.g] 34)) (w.heap.size + 1) x := by
    have := heap_alloc_new (w.alloc (.cells #[.int .i64 p.m, .int .i64 p.s, .int .i64 p.a] 55)) (.cells #[.int .i64 x.s, .int .u64 x.g] 34)
    rw [World.size_alloc] at this
    exact this
  have hG := h.kp0 hK0
  have hR := hr.kp0 hK0
  have hl : ∀ k, MS rm im bm k → k < w.heap.size := fun k hk => h.lts (.inr hk)
  have hle : ∀ k, MS rm im bm k → ¬ w.heap.size ≤ k := fun k hk => by have := hl k hk; omega
  have hbyh := Lib.hid hby
  have hBh := Lib.hid hB
  clear hl hby hB
  go_enter Try.func60, Try.ntmps60
  go_wp2_with fail
  generalize (w.alloc (.cells #[.int .i64 p.m, .int .i64 p.s, .int .i64 p.a] 55)).alloc (.cells #[.int .i64 x.s, .int .u64 x.g] 34) = W at hK0 hP hX hG hR ⊢
  have c1 := hG.c1
  have c2 := hG.c2
  have p0 := hP.c0
  have p1 := hP.c1
  have p2 := hP.c2
  have x0 := hX.c0
  have x1 := hX.c1
  have hlb := fun k => (hG.kp0 ((Kp.refl _ W).drewN k)).lookB' p hp x hx
  rw [hbyh.out] at hlb
  have hlb' : Sem.run Try.prog (Instr.lookup 105 (.map (some bm)) (.agg #[.int .i64 p.m, .int .i64 p.s, .int .i64 p.a, .int .i64 x.s, .int .u64 x.g]) false) W.drew = .ok (.int .i64 n) W.drew := hlb 1
  clear hlb
  obtain ⟨ni, hi⟩ := hG.i
  go_still_tail 14, (by kernel_rfl)
  refine wpList_delete_e rfl _ _ rfl law117 Try.underlying104 keyv_inj rfl (MapE.drewN (w := W) hi 1) (x, n) ki hki rfl ?_
  intro w1 hi1 ho
  have hG1 := hG.drew.setI ho ⟨_, hi1⟩
  have hK1 := (hK0.drew.mono (fun _ _ h => h.elim)).trans (ho.kp (S := MS rm im bm) (.inr (.inl rfl)))
  have hko := (Kp.refl (MS rm im bm) W).drew.trans (ho.kp (S := MS rm im bm) (.inr (.inl rfl)))
  have hP1 := hP.kp hko (fun e => hle _ e (Nat.le_refl _))
  have hX1 := hX.kp hko (fun e => hle _ e (Nat.le_succ _))
  have hR1 := hR.kp hko hd
  go_step
  clear hko ho hP hX hG hR hi hi1 c1 c2 p0 p1 p2 x0 x1 hK0 hlb'
  have c2 := hG1.c2
  have p0 := hP1.c0
  have p1 := hP1.c1
  have p2 := hP1.c2
  have x0 := hX1.c0
  have x1 := hX1.c1
  obtain ⟨nb, hb⟩ := hG1.b
  go_wp2_with fail
  go_still_tail 7, (by kernel_rfl)
  refine wpList_delete_e rfl _ _ rfl law122 Try.underlying105 spotv_inj rfl (MapE.drewN (w := w1) hb 1) (p, x) kb hkb rfl ?_
  intro w2 hb2 ho
  have hG2 := hG1.drew.setB ho ⟨_, hb2⟩
  have hK2 := hK1.drew.trans (ho.kp (S := MS rm im bm) (.inr (.inr rfl)))
  have hko := (Kp.refl (MS rm im bm) w1).drew.trans (ho.kp (S := MS rm im bm) (.inr (.inr rfl)))
  have hP2 := hP1.kp hko (fun e => hle _ e (Nat.le_refl _))
  have hR2 := hR1.kp hko hd
  go_step
  clear hko ho hP1 hX1 hG1 hR1 hb hb2 c2 p0 p1 p2 x0 x1 hK1
  have p0 := hP2.c0
  have p1 := hP2.c1
  have p2 := hP2.c2
  have c0 := hG2.c0
  have hlk := fun k => hG2.lookR p hp k
  rw [hBh.out] at hlk
  go_wp2_with fail
  cases t with
  | false =>
    have hlk' : ∀ k, Sem.run Try.prog (Instr.lookup 103 (.map (some rm)) (.agg #[.int .i64 p.m, .int .i64 p.s, .int .i64 p.a]) false) (w2.drewN k) = .ok (.iface 108 (.pointer (some ⟨b, 0, .none⟩))) (w2.drewN k) := hlk
    clear hlk
    have m1 := m_len_l
    have hln : ∀ k, Calls Try.prog 124 #[.pointer (some ⟨b, 0, .none⟩)] (w2.drewN k) fun e w' => e = .returned (.int .i64 L.length) ∧ w' = w2.drewN k := fun k => list_len (hR2.kp0 ((Kp.refl _ w2).drewN k))
    go_quiet ((go_at_call 124; exact Calls.quiet_of_same (hln _)))
    have hG3 := hG2.kp0 ((Kp.refl _ w2).drewN nq)
    have hP3 := hP2.kp0 ((Kp.refl _ w2).drewN nq)
    have hK3 := hK2.drewN nq
    clear hln hlk' hG2 hP2 hK2 hR2 p0 p1 p2 c0
    generalize w2.drewN nq = w3 at hG3 hP3 hK3 ⊢
    have p0 := hP3.c0
    have p1 := hP3.c1
    have p2 := hP3.c2
    have c0 := hG3.c0
    cases L with
    | nil =>
      obtain ⟨nr, hr⟩ := hG3.r
      go_wp2_with fail
      go_still_tail 5, (by kernel_rfl)
      refine wpList_delete_e rfl _ _ rfl law55 Try.underlying103 Plc.v_inj rfl (MapE.drewN (w := w3) hr 1) p kr hkr rfl ?_
      intro w4 hr4 ho
      have hG4 := hG3.drew.setR ho ⟨_, hr4⟩
      have hK4 := hK3.drew.trans (ho.kp (S := MS rm im bm) (.inl rfl))
      go_step
      go_wp2_with fail
      go_end0
      exact ⟨rfl, hG4, hK4⟩
    | cons a r =>
      have hl : (((a :: r).length : Int) == 0) = false := by simp; omega
      go_wp2_with fail
      go_end0
      exact ⟨rfl, hG3, hK3⟩
  | true =>
    have hlk' : ∀ k, Sem.run Try.prog (Instr.lookup 103 (.map (some rm)) (.agg #[.int .i64 p.m, .int .i64 p.s, .int .i64 p.a]) false) (w2.drewN k) = .ok (.iface 24 (.pointer (some ⟨b, 0, .none⟩))) (w2.drewN k) := hlk
    clear hlk
    have m1 := m_len_t
    have hln : ∀ k, Calls Try.prog 22 #[.pointer (some ⟨b, 0, .none⟩)] (w2.drewN k) fun e w' => e = .returned (.int .i64 L.length) ∧ w' = w2.drewN k := fun k => calls_same (tree_len (TreeAt.kp hR2 ((Kp.refl (fun _ => False) w2).drewN k) (fun _ _ h => h)))
    go_quiet ((go_at_call 22; exact Calls.quiet_of_same (hln _)))
    have hG3 := hG2.kp0 ((Kp.refl _ w2).drewN nq)
    have hP3 := hP2.kp0 ((Kp.refl _ w2).drewN nq)
    have hK3 := hK2.drewN nq
    clear hln hlk' hG2 hP2 hK2 hR2 p0 p1 p2 c0
    generalize w2.drewN nq = w3 at hG3 hP3 hK3 ⊢
    have p0 := hP3.c0
    have p1 := hP3.c1
    have p2 := hP3.c2
    have c0 := hG3.c0
    cases L with
    | nil =>
      obtain ⟨nr, hr⟩ := hG3.r
      go_wp2_with fail
      go_still_tail 5, (by kernel_rfl)
      refine wpList_delete_e rfl _ _ rfl law55 Try.underlying103 Plc.v_inj rfl (MapE.drewN (w := w3) hr 1) p kr hkr rfl ?_
      intro w4 hr4 ho
      have hG4 := hG3.drew.setR ho ⟨_, hr4⟩
      have hK4 := hK3.drew.trans (ho.kp (S := MS rm im bm) (.inl rfl))
      go_step
      go_wp2_with fail
      go_end0
      exact ⟨rfl, hG4, hK4⟩
    | cons a r =>
      have hl : (((a :: r).length : Int) == 0) = false := by simp; omega
      go_wp2_with fail
      go_end0
      exact ⟨rfl, hG3, hK3⟩
end
end Go.Proofs.Ytimhbnlgambcaaa
