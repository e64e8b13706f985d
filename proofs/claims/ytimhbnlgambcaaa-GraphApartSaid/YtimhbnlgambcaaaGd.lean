/- The walks of comes, In, New of a graph; a row of either kind. -/
import Derived.Test.YtimhbnlgambcaaaGc
namespace Go.Proofs.Ytimhbnlgambcaaa
open Go.RowKit Go.BigFrame

section
variable {w w' : World} {gb rm im bm : Nat} {B : Plc → Option (Bool × Nat)} {In : Hd × Int → Option Plc} {By : Plc × Hd → Option Int}

theorem GM.setR (h : GM w gb rm im bm B In By) {B' : Plc → Option (Bool × Nat)} (ho : Only rm w w') (hr : ∃ n, MapE 55 Plc.v rowv w' rm n B') : GM w' gb rm im bm B' In By := by
  obtain ⟨ni, hi⟩ := h.i
  obtain ⟨nb, hb⟩ := h.b
  exact ⟨(ho.block gb h.ne.1).trans h.t, hr, ⟨ni, hi.block (ho.block im h.ri.symm)⟩, ⟨nb, hb.block (ho.block bm h.rb.symm)⟩, h.ri, h.rb, h.ib⟩
theorem GM.setI (h : GM w gb rm im bm B In By) {In' : Hd × Int → Option Plc} (ho : Only im w w') (hr : ∃ n, MapE 117 keyv Plc.v w' im n In') : GM w' gb rm im bm B In' By := by
  obtain ⟨ni, hi⟩ := h.r
  obtain ⟨nb, hb⟩ := h.b
  exact ⟨(ho.block gb h.ne.2.1).trans h.t, ⟨ni, hi.block (ho.block rm h.ri)⟩, hr, ⟨nb, hb.block (ho.block bm h.ib.symm)⟩, h.ri, h.rb, h.ib⟩
theorem GM.setB (h : GM w gb rm im bm B In By) {By' : Plc × Hd → Option Int} (ho : Only bm w w') (hr : ∃ n, MapE 122 spotv (Value.int .i64) w' bm n By') : GM w' gb rm im bm B In By' := by
  obtain ⟨ni, hi⟩ := h.r
  obtain ⟨nb, hb⟩ := h.i
  exact ⟨(ho.block gb h.ne.2.2).trans h.t, ⟨ni, hi.block (ho.block rm h.rb)⟩, ⟨nb, hb.block (ho.block im h.ib)⟩, hr, h.ri, h.rb, h.ib⟩
theorem GM.drew (h : GM w gb rm im bm B In By) : GM w.drew gb rm im bm B In By := h.kp0 (Kp.refl _ _).drew

set_option maxRecDepth 100000 in
set_option maxHeartbeats 2000000 in
theorem graph_comes (h : GM w gb rm im bm B In By) (p : Plc) (hp : p.ok) (x : Hd) (hx : x.ok) (n : Int) (hn : (Lit.int .i64 n).wf = true) (r : Bool × Nat) :
    Calls Try.prog 57 #[.pointer (some ⟨gb, 0, .none⟩), .agg #[.int .i64 p.m, .int .i64 p.s, .int .i64 p.a], .agg #[.int .i64 x.s, .int .u64 x.g], .int .i64 n, rowv r] w fun e w' =>
      e = .returned (.tuple #[]) ∧ GM w' gb rm im bm (eput B p r) (eput In (x, n) p) (eput By (p, x) n) ∧ Kp (fun k => k = rm ∨ k = im ∨ k = bm) w w' := by
  obtain ⟨kr, hkr⟩ := key55 p hp
  obtain ⟨ki, hki⟩ := key117 (x, n) hx hn
  obtain ⟨kb, hkb⟩ := key122 (p, x) hp hx
  obtain ⟨rv, hrv⟩ : ∃ v, v = rowv r := ⟨_, rfl⟩
  rw [← hrv]
  have hrvh := Lib.hid hrv
  clear hrv
  have hK0 : Kp (fun _ => False) w ((w.alloc (.cells #[.int .i64 p.m, .int .i64 p.s, .int .i64 p.a] 55)).alloc (.cells #[.int .i64 x.s, .int .u64 x.g] 34)) := ((Kp.refl _ _).alloc _).alloc _
  have hP : PBox ((w.alloc (.cells #[.int .i64 p.m, .int .i64 p.s, .int .i64 p.a] 55)).alloc (.cells #[.int .i64 x.s, .int .u64 x.g] 34)) w.heap.size p := (Below.heap_alloc _ _ _ (by simp)).trans (heap_alloc_new w _)
  have hX : HBox ((w.alloc (.cells #[.int .i64 p.m, .int .i64 p.s, .int .i64 p.a] 55)).alloc (.cells #[.int .i64 x.s, .int .u64 x.g] 34)) (w.heap.size + 1) x := by
    have := heap_alloc_new (w.alloc (.cells #[.int .i64 p.m, .int .i64 p.s, .int .i64 p.a] 55)) (.cells #[.int .i64 x.s, .int .u64 x.g] 34)
    rw [World.size_alloc] at this
    exact this
  have hG := h.kp0 hK0
  have hl : ∀ k, k = rm ∨ k = im ∨ k = bm → k < w.heap.size := fun k hk => h.lts (.inr hk)
  have hle : ∀ k, k = rm ∨ k = im ∨ k = bm → ¬ w.heap.size ≤ k := fun k hk => by have := hl k hk; omega
  clear hl
  go_enter Try.func57, Try.ntmps57
  go_wp2_with fail
  generalize (w.alloc (.cells #[.int .i64 p.m, .int .i64 p.s, .int .i64 p.a] 55)).alloc (.cells #[.int .i64 x.s, .int .u64 x.g] 34) = W at hK0 hP hX hG ⊢
  have c0 := hG.c0
  have p0 := hP.c0
  have p1 := hP.c1
  have p2 := hP.c2
  obtain ⟨nr, hr⟩ := hG.r
  go_still_tail 6, (by kernel_rfl)
  refine wpList_store_e rfl _ _ _ rfl law55 Try.underlying103 Plc.v_inj rfl (MapE.drewN (w := W) hr 1) p r kr hkr rfl hrvh.out ?_
  intro w1 hr1 ho
  have hG1 := hG.drew.setR ho ⟨_, hr1⟩
  have hK1 := (hK0.drew.mono (fun _ _ h => h.elim)).trans (ho.kp (S := fun k => k = rm ∨ k = im ∨ k = bm) (.inl rfl))
  have hko := (Kp.refl (fun k => k = rm ∨ k = im ∨ k = bm) W).drew.trans (ho.kp (S := fun k => k = rm ∨ k = im ∨ k = bm) (.inl rfl))
  have hP1 := hP.kp hko (fun e => hle _ e (Nat.le_refl _))
  have hX1 := hX.kp hko (fun e => hle _ e (Nat.le_succ _))
  go_step
  clear hko ho hP hX hG hr hr1 c0 p0 p1 p2 hK0
  have c0 := hG1.c1
  have p0 := hP1.c0
  have p1 := hP1.c1
  have p2 := hP1.c2
  have x0 := hX1.c0
  have x1 := hX1.c1
  obtain ⟨ni, hi⟩ := hG1.i
  go_wp2_with fail
  go_still_tail 8, (by kernel_rfl)
  refine wpList_store_e rfl _ _ _ rfl law117 Try.underlying104 keyv_inj rfl (MapE.drewN (w := w1) hi 1) (x, n) p ki hki rfl rfl ?_
  intro w2 hi2 ho
  have hG2 := hG1.drew.setI ho ⟨_, hi2⟩
  have hK2 := hK1.drew.trans (ho.kp (S := fun k => k = rm ∨ k = im ∨ k = bm) (.inr (.inl rfl)))
  have hko := (Kp.refl (fun k => k = rm ∨ k = im ∨ k = bm) w1).drew.trans (ho.kp (S := fun k => k = rm ∨ k = im ∨ k = bm) (.inr (.inl rfl)))
  have hP2 := hP1.kp hko (fun e => hle _ e (Nat.le_refl _))
  have hX2 := hX1.kp hko (fun e => hle _ e (Nat.le_succ _))
  go_step
  clear hko ho hP1 hX1 hG1 hi hi2 c0 p0 p1 p2 x0 x1 hK1
  have c0 := hG2.c2
  have p0 := hP2.c0
  have p1 := hP2.c1
  have p2 := hP2.c2
  have x0 := hX2.c0
  have x1 := hX2.c1
  obtain ⟨nb, hb⟩ := hG2.b
  go_wp2_with fail
  go_still_tail 8, (by kernel_rfl)
  refine wpList_store_e rfl _ _ _ rfl law122 Try.underlying105 spotv_inj rfl (MapE.drewN (w := w2) hb 1) (p, x) n kb hkb rfl rfl ?_
  intro w3 hb3 ho
  have hG3 := hG2.drew.setB ho ⟨_, hb3⟩
  have hK3 := hK2.drew.trans (ho.kp (S := fun k => k = rm ∨ k = im ∨ k = bm) (.inr (.inr rfl)))
  go_step
  go_wp2_with fail
  go_end0
  exact ⟨rfl, hG3, hK3⟩

/-! ### In -/
set_option maxRecDepth 100000 in
set_option maxHeartbeats 2000000 in
theorem graph_in (h : GM w gb rm im bm B In By) (x : Hd) (hx : x.ok) (n : Int) (hn : (Lit.int .i64 n).wf = true) :
    Calls Try.prog 35 #[.pointer (some ⟨gb, 0, .none⟩), .agg #[.int .i64 x.s, .int .u64 x.g], .int .i64 n] w fun e w' =>
      e = .returned (.tuple #[.agg #[.int .i64 ((In (x, n)).getD ⟨0, 0, 0⟩).m, .int .i64 ((In (x, n)).getD ⟨0, 0, 0⟩).s, .int .i64 ((In (x, n)).getD ⟨0, 0, 0⟩).a], .bool (In (x, n)).isSome]) ∧ Kp (fun _ => False) w w' := by
  have hK0 : Kp (fun _ => False) w ((w.alloc (.cells #[.int .i64 x.s, .int .u64 x.g] 34)).alloc (.cells #[.int .i64 0, .int .i64 0, .int .i64 0] 55)) := ((Kp.refl _ _).alloc _).alloc _
  have hX : HBox ((w.alloc (.cells #[.int .i64 x.s, .int .u64 x.g] 34)).alloc (.cells #[.int .i64 0, .int .i64 0, .int .i64 0] 55)) w.heap.size x := (Below.heap_alloc _ _ _ (by simp)).trans (heap_alloc_new w _)
  have hZ : PBox ((w.alloc (.cells #[.int .i64 x.s, .int .u64 x.g] 34)).alloc (.cells #[.int .i64 0, .int .i64 0, .int .i64 0] 55)) (w.heap.size + 1) ⟨0, 0, 0⟩ := by
    have := heap_alloc_new (w.alloc (.cells #[.int .i64 x.s, .int .u64 x.g] 34)) (.cells #[.int .i64 0, .int .i64 0, .int .i64 0] 55)
    rw [World.size_alloc] at this
    exact this
  have hG := h.kp0 hK0
  obtain ⟨z, hz⟩ : ∃ z, z = (In (x, n)).getD ⟨0, 0, 0⟩ := ⟨_, rfl⟩
  obtain ⟨is, his⟩ : ∃ is, is = (In (x, n)).isSome := ⟨_, rfl⟩
  have hlk : ∀ w', Kp (fun _ => False) w w' → Sem.run Try.prog (Instr.lookup 104 (.map (some im)) (.agg #[.int .i64 x.s, .int .u64 x.g, .int .i64 n]) true) w' = .ok (.tuple #[.agg #[.int .i64 z.m, .int .i64 z.s, .int .i64 z.a], .bool is]) w' := fun w' hk => by
    have := (h.kp0 hk).lookI x n hx hn
    rw [← hz, ← his] at this
    exact this
  rw [← hz, ← his]
  have hlkh := Lib.hid hlk
  clear hz his hlk
  go_enter Try.func35, Try.ntmps35
  go_wp2_with fail
  generalize (w.alloc (.cells #[.int .i64 x.s, .int .u64 x.g] 34)).alloc (.cells #[.int .i64 0, .int .i64 0, .int .i64 0] 55) = W at hK0 hX hZ hG ⊢
  have c1 := hG.c1
  have x0 := hX.c0
  have x1 := hX.c1
  have hS : ∀ w', Kp (fun _ => False) W w' → w'.cell? ⟨gb, 1, .none⟩ = some (.map (some im)) ∧ w'.cell? ⟨w.heap.size, 0, .none⟩ = some (.int .i64 x.s) ∧ w'.cell? ⟨w.heap.size, 1, .none⟩ = some (.int .u64 x.g) ∧
      Sem.run Try.prog (Instr.lookup 104 (.map (some im)) (.agg #[.int .i64 x.s, .int .u64 x.g, .int .i64 n]) true) w' = .ok (.tuple #[.agg #[.int .i64 z.m, .int .i64 z.s, .int .i64 z.a], .bool is]) w' :=
    fun w' hk => ⟨(hG.kp0 hk).c1, (hX.kp0 hk).c0, (hX.kp0 hk).c1, hlkh.out w' (hK0.trans hk)⟩
  have hSh := Lib.hid hS
  clear hS
  go_region_held3 (fun w' => w'.cell? ⟨gb, 1, .none⟩ = some (.map (some im)) ∧ w'.cell? ⟨w.heap.size, 0, .none⟩ = some (.int .i64 x.s) ∧ w'.cell? ⟨w.heap.size, 1, .none⟩ = some (.int .u64 x.g) ∧
      Sem.run Try.prog (Instr.lookup 104 (.map (some im)) (.agg #[.int .i64 x.s, .int .u64 x.g, .int .i64 n]) true) w' = .ok (.tuple #[.agg #[.int .i64 z.m, .int .i64 z.s, .int .i64 z.a], .bool is]) w')
    (first | exact hSh.out _ (Kp.refl _ W).drew | exact hSh.out _ ((Kp.refl _ W).alloc _).drew | exact hSh.out _ ((Kp.refl _ W).drew.alloc _)) (fail)
  all_goals
    have q0 := hZ.c0
    have q1 := hZ.c1
    have q2 := hZ.c2
    have qf := hZ.fz
    have ql := hZ.lt
    go_wp2_with fail
    exact bodyPost_ret (v := .tuple #[.agg #[.int .i64 z.m, .int .i64 z.s, .int .i64 z.a], .bool is]) (by simp [results, Try.results35, go_sem, q0, q1, q2, ql]) rfl ⟨rfl, ((((hK0.setNew _ _ _ (by omega)).setNew _ _ _ (by omega)).setNew _ _ _ (by omega)).alloc _).drew⟩

/-! ### New -/
set_option maxHeartbeats 400000 in
theorem graph_new (w : World) : Calls Try.prog 25 #[] w fun e w' => ∃ gb rm im bm, e = .returned (.pointer (some ⟨gb, 0, .none⟩)) ∧ GM w' gb rm im bm (fun _ => .none) (fun _ => .none) (fun _ => .none) ∧ (∀ k, k = gb ∨ k = rm ∨ k = im ∨ k = bm → w.heap.size ≤ k) ∧ Kp (fun _ => False) w w' := by
  have hmm := @run_makeMap Try.prog
  go_enter Try.func25, Try.ntmps25
  go_wp2
  go_ret
  have hK3 : Kp (fun _ => False) w (((w.alloc (.map #[] 0)).alloc (.map #[] 0)).alloc (.map #[] 0)) := (((Kp.refl _ _).alloc _).alloc _).alloc _
  refine ⟨w.heap.size + 1 + 1 + 1, w.heap.size, w.heap.size + 1, w.heap.size + 1 + 1, rfl, ⟨?_, ⟨0, ?_⟩, ⟨0, ?_⟩, ⟨0, ?_⟩, by omega, by omega, by omega⟩, by omega, hK3.alloc _⟩
  · have := heap_alloc_new (((w.alloc (.map #[] 0)).alloc (.map #[] 0)).alloc (.map #[] 0)) (.cells #[.map (some w.heap.size), .map (some (w.heap.size + 1)), .map (some (w.heap.size + 1 + 1))] 107)
    simp only [World.size_alloc] at this
    exact this
  · exact (MapE.made w).kp (S := fun _ => False) ((((Kp.refl _ _).alloc _).alloc _).alloc _) (fun h => h)
  · have := MapE.made (α := Hd × Int) (β := Plc) (k := 117) (enc := keyv) (val := Plc.v) (w.alloc (.map #[] 0))
    rw [World.size_alloc] at this
    exact this.kp (S := fun _ => False) (((Kp.refl _ _).alloc _).alloc _) (fun h => h)
  · have := MapE.made (α := Plc × Hd) (β := Int) (k := 122) (enc := spotv) (val := Value.int .i64) ((w.alloc (.map #[] 0)).alloc (.map #[] 0))
    simp only [World.size_alloc] at this
    exact this.kp (S := fun _ => False) ((Kp.refl _ _).alloc _) (fun h => h)
end
end Go.Proofs.Ytimhbnlgambcaaa
