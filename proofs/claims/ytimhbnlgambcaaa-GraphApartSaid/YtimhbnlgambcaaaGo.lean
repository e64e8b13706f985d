/- The walk of Remove of a graph. -/
import Derived.Test.YtimhbnlgambcaaaGn
namespace Go.Proofs.Ytimhbnlgambcaaa
open Go.RowKit Go.BigFrame

section
variable {w w' : World} {gb rm im bm : Nat} {B : Plc → Option (Bool × Nat)} {Sp : Plc → Nat → Prop} {g : GS} {S : Nat → Prop}

theorem nodup_parts {pre post pre' post' : List Hd} {x : Hd} (nd : (pre ++ x :: post).Nodup) (h : pre ++ x :: post = pre' ++ x :: post') : pre = pre' ∧ post = post' := by
  have hl : pre.length = pre'.length := by
    have h1 : (pre ++ x :: post)[pre.length]? = some x := by simp
    have h2 : (pre ++ x :: post)[pre'.length]? = some x := by rw [h]; simp
    obtain ⟨hi1, hi2⟩ := List.getElem?_eq_some_iff.1 h1
    obtain ⟨hj1, hj2⟩ := List.getElem?_eq_some_iff.1 h2
    have nd' := List.pairwise_iff_getElem.1 nd
    rcases Nat.lt_trichotomy pre.length pre'.length with h | h | h
    · exact absurd (hi2.trans hj2.symm) (nd' _ _ hi1 hj1 h)
    · exact h
    · exact absurd (hj2.trans hi2.symm) (nd' _ _ hj1 hi1 h)
  have := List.append_inj h hl
  exact ⟨this.1, by simpa using this.2⟩

set_option maxRecDepth 100000 in
set_option maxHeartbeats 4000000 in
theorem gremove_out (h : GW w gb rm im bm B Sp g) (p : Plc) (hp : p.ok) (x : Hd) (hx : x.ok) (n : Int) (hn : nwf n) (hout : g.In (x, n) ≠ some p) :
    Calls Try.prog 30 #[.pointer (some ⟨gb, 0, .none⟩), .agg #[.int .i64 p.m, .int .i64 p.s, .int .i64 p.a], .agg #[.int .i64 x.s, .int .u64 x.g], .int .i64 n] w fun e w' => e = .returned (.bool false) ∧ Kp (fun _ => False) w w' := by
  have hK0 : Kp (fun _ => False) w ((w.alloc (.cells #[.int .i64 p.m, .int .i64 p.s, .int .i64 p.a] 55)).alloc (.cells #[.int .i64 x.s, .int .u64 x.g] 34)) := ((Kp.refl _ _).alloc _).alloc _
  obtain ⟨hp1, hx1⟩ := two_new w (.cells #[.int .i64 p.m, .int .i64 p.s, .int .i64 p.a] 55) (.cells #[.int .i64 x.s, .int .u64 x.g] 34)
  have hP : PBox ((w.alloc (.cells #[.int .i64 p.m, .int .i64 p.s, .int .i64 p.a] 55)).alloc (.cells #[.int .i64 x.s, .int .u64 x.g] 34)) w.heap.size p := hp1
  have hX : HBox ((w.alloc (.cells #[.int .i64 p.m, .int .i64 p.s, .int .i64 p.a] 55)).alloc (.cells #[.int .i64 x.s, .int .u64 x.g] 34)) (w.heap.size + 1) x := hx1
  have hG := h.m.kp0 hK0
  clear hp1 hx1
  obtain ⟨z, hz⟩ : ∃ z, z = (g.In (x, n)).getD ⟨0, 0, 0⟩ := ⟨_, rfl⟩
  obtain ⟨is, his⟩ : ∃ is, is = (g.In (x, n)).isSome := ⟨_, rfl⟩
  have hlk : ∀ w', Kp (fun _ => False) w w' → Sem.run Try.prog (Instr.lookup 104 (.map (some im)) (.agg #[.int .i64 x.s, .int .u64 x.g, .int .i64 n]) true) w' = .ok (.tuple #[.agg #[.int .i64 z.m, .int .i64 z.s, .int .i64 z.a], .bool is]) w' := fun w' hk => by
    have := (h.m.kp0 hk).lookI x n hx hn
    rw [← hz, ← his] at this
    exact this
  have hzp : is = true → z ≠ p := by
    intro e
    cases hI : g.In (x, n) with
    | none => rw [hI] at his; rw [his] at e; cases e
    | some q => rw [hI] at hz; rw [hz]; intro e2; exact hout (by rw [hI]; exact congrArg some e2)
  have hzph := Lib.hid hzp
  have hlkh := Lib.hid hlk
  clear hz his hlk hzp hout
  go_enter Try.func30, Try.ntmps30
  go_wp2_with fail
  generalize (w.alloc (.cells #[.int .i64 p.m, .int .i64 p.s, .int .i64 p.a] 55)).alloc (.cells #[.int .i64 x.s, .int .u64 x.g] 34) = W at hK0 hP hX hG ⊢
  refine (graph_made hG).mono ?_
  rintro e w1 ⟨rfl, rfl⟩
  go_wp2_with fail
  have hS : ∀ w', Kp (fun _ => False) W w' → w'.cell? ⟨gb, 1, .none⟩ = some (.map (some im)) ∧ w'.cell? ⟨w.heap.size + 1, 0, .none⟩ = some (.int .i64 x.s) ∧ w'.cell? ⟨w.heap.size + 1, 1, .none⟩ = some (.int .u64 x.g) ∧
      Sem.run Try.prog (Instr.lookup 104 (.map (some im)) (.agg #[.int .i64 x.s, .int .u64 x.g, .int .i64 n]) true) w' = .ok (.tuple #[.agg #[.int .i64 z.m, .int .i64 z.s, .int .i64 z.a], .bool is]) w' :=
    fun w' hk => ⟨(hG.kp0 hk).c1, (hX.kp0 hk).c0, (hX.kp0 hk).c1, hlkh.out w' (hK0.trans hk)⟩
  have hSh := Lib.hid hS
  clear hS
  go_region_held3 (fun w' => w'.cell? ⟨gb, 1, .none⟩ = some (.map (some im)) ∧ w'.cell? ⟨w.heap.size + 1, 0, .none⟩ = some (.int .i64 x.s) ∧ w'.cell? ⟨w.heap.size + 1, 1, .none⟩ = some (.int .u64 x.g) ∧
      Sem.run Try.prog (Instr.lookup 104 (.map (some im)) (.agg #[.int .i64 x.s, .int .u64 x.g, .int .i64 n]) true) w' = .ok (.tuple #[.agg #[.int .i64 z.m, .int .i64 z.s, .int .i64 z.a], .bool is]) w')
    (first | exact hSh.out _ (Kp.refl _ W).drew | exact hSh.out _ ((Kp.refl _ W).alloc _).drew | exact hSh.out _ ((Kp.refl _ W).drew.alloc _)) (fail)
  all_goals
    have hK1 : Kp (fun _ => False) W ((W.alloc (.cells #[.int .i64 z.m, .int .i64 z.s, .int .i64 z.a] 55)).drew) := ((Kp.refl _ W).alloc _).drew
    have hZ : PBox ((W.alloc (.cells #[.int .i64 z.m, .int .i64 z.s, .int .i64 z.a] 55)).drew) W.heap.size z := heap_alloc_new _ _
    have hP1 := hP.kp0 hK1
    have hK2 := hK0.trans hK1
    generalize (W.alloc (.cells #[.int .i64 z.m, .int .i64 z.s, .int .i64 z.a] 55)).drew = W2 at hK2 hZ hP1 ⊢
    have p0 := hP1.c0
    have p1 := hP1.c1
    have p2 := hP1.c2
    have z0 := hZ.c0
    have z1 := hZ.c1
    have z2 := hZ.c2
    clear hK1 hK0 hG hX hP hSh
    cases is with
    | false =>
      go_wp2_with fail
      go_ret
      exact ⟨rfl, hK2⟩
    | true =>
      by_cases e1 : z.m = p.m
      · rw [e1] at z0
        by_cases e2 : z.s = p.s
        · rw [e2] at z1
          have e3 : z.a ≠ p.a := fun e3 => hzph.out rfl (by cases z; cases p; simp_all)
          go_wp2_with fail
          go_ret
          exact ⟨rfl, hK2⟩
        · go_wp2_with fail
          go_ret
          exact ⟨rfl, hK2⟩
      · go_wp2_with fail
        go_ret
        exact ⟨rfl, hK2⟩
set_option maxRecDepth 100000 in
set_option maxHeartbeats 4000000 in
theorem gremove_ok (h : GW w gb rm im bm B Sp g) (p : Plc) (hp : p.ok) (x : Hd) (hx : x.ok) (n : Int) (hn : nwf n) (hSS : ∀ k, S k ↔ (k = gb ∨ MS rm im bm k ∨ ∃ p, Sp p k)) (hIn : g.In (x, n) = some p) {t : Bool} {b : Nat} {L : List Hd} (hB : B p = some (t, b)) (hR : g.R p = some (t, L)) (hr : RowAt w t b (Sp p) L) (hBy : g.By (p, x) = some n) (hxL : x ∈ L) (small : L.length < 1000000) :
    Calls Try.prog 30 #[.pointer (some ⟨gb, 0, .none⟩), .agg #[.int .i64 p.m, .int .i64 p.s, .int .i64 p.a], .agg #[.int .i64 x.s, .int .u64 x.g], .int .i64 n] w fun e w' => e = .returned (.bool true) ∧ DelPost w gb S (gdel g p t (L.erase x) x n) w' := by
  have hK0 : Kp (fun _ => False) w ((w.alloc (.cells #[.int .i64 p.m, .int .i64 p.s, .int .i64 p.a] 55)).alloc (.cells #[.int .i64 x.s, .int .u64 x.g] 34)) := ((Kp.refl _ _).alloc _).alloc _
  obtain ⟨hp1, hx1⟩ := two_new w (.cells #[.int .i64 p.m, .int .i64 p.s, .int .i64 p.a] 55) (.cells #[.int .i64 x.s, .int .u64 x.g] 34)
  have hP : PBox ((w.alloc (.cells #[.int .i64 p.m, .int .i64 p.s, .int .i64 p.a] 55)).alloc (.cells #[.int .i64 x.s, .int .u64 x.g] 34)) w.heap.size p := hp1
  have hX : HBox ((w.alloc (.cells #[.int .i64 p.m, .int .i64 p.s, .int .i64 p.a] 55)).alloc (.cells #[.int .i64 x.s, .int .u64 x.g] 34)) (w.heap.size + 1) x := hx1
  have hG := h.m.kp0 hK0
  clear hp1 hx1
  have hlk : ∀ w', Kp (fun _ => False) w w' → Sem.run Try.prog (Instr.lookup 104 (.map (some im)) (.agg #[.int .i64 x.s, .int .u64 x.g, .int .i64 n]) true) w' = .ok (.tuple #[.agg #[.int .i64 p.m, .int .i64 p.s, .int .i64 p.a], .bool true]) w' := fun w' hk => by
    have := (h.m.kp0 hk).lookI x n hx hn
    rw [hIn] at this
    exact this
  have hlkh := Lib.hid hlk
  have hr0 := hr.kp0 hK0
  have hnd := h.ok.nd p t L hR
  obtain ⟨pre, post, rfl⟩ := List.append_of_mem hxL
  have her : (pre ++ x :: post).erase x = pre ++ post := by
    have hnd' := hnd
    rw [List.nodup_append] at hnd'
    rw [List.erase_append_right _ (fun hm => hnd'.2.2 x hm x (by simp) rfl), List.erase_cons_head]
  rw [her]
  clear her
  have hBh := Lib.hid hB
  have hRh := Lib.hid hR
  have hByh := Lib.hid hBy
  have hn0 : ∀ k, w.heap.size ≤ k → ¬ Sp p k := fun k hk hs => by have := h.splt hs; omega
  clear hlk hIn hB hR hBy
  go_enter Try.func30, Try.ntmps30
  go_wp2_with fail
  generalize (w.alloc (.cells #[.int .i64 p.m, .int .i64 p.s, .int .i64 p.a] 55)).alloc (.cells #[.int .i64 x.s, .int .u64 x.g] 34) = W at hK0 hP hX hG hr0 ⊢
  refine (graph_made hG).mono ?_
  rintro e w1 ⟨rfl, rfl⟩
  go_wp2_with fail
  have hS : ∀ w', Kp (fun _ => False) W w' → w'.cell? ⟨gb, 1, .none⟩ = some (.map (some im)) ∧ w'.cell? ⟨w.heap.size + 1, 0, .none⟩ = some (.int .i64 x.s) ∧ w'.cell? ⟨w.heap.size + 1, 1, .none⟩ = some (.int .u64 x.g) ∧
      Sem.run Try.prog (Instr.lookup 104 (.map (some im)) (.agg #[.int .i64 x.s, .int .u64 x.g, .int .i64 n]) true) w' = .ok (.tuple #[.agg #[.int .i64 p.m, .int .i64 p.s, .int .i64 p.a], .bool true]) w' :=
    fun w' hk => ⟨(hG.kp0 hk).c1, (hX.kp0 hk).c0, (hX.kp0 hk).c1, hlkh.out w' (hK0.trans hk)⟩
  have hSh := Lib.hid hS
  clear hS
  go_region_held3 (fun w' => w'.cell? ⟨gb, 1, .none⟩ = some (.map (some im)) ∧ w'.cell? ⟨w.heap.size + 1, 0, .none⟩ = some (.int .i64 x.s) ∧ w'.cell? ⟨w.heap.size + 1, 1, .none⟩ = some (.int .u64 x.g) ∧
      Sem.run Try.prog (Instr.lookup 104 (.map (some im)) (.agg #[.int .i64 x.s, .int .u64 x.g, .int .i64 n]) true) w' = .ok (.tuple #[.agg #[.int .i64 p.m, .int .i64 p.s, .int .i64 p.a], .bool true]) w')
    (first | exact hSh.out _ (Kp.refl _ W).drew | exact hSh.out _ ((Kp.refl _ W).alloc _).drew | exact hSh.out _ ((Kp.refl _ W).drew.alloc _)) (fail)
  all_goals
    have hK1 : Kp (fun _ => False) W ((W.alloc (.cells #[.int .i64 p.m, .int .i64 p.s, .int .i64 p.a] 55)).drew) := ((Kp.refl _ W).alloc _).drew
    have hZ : PBox ((W.alloc (.cells #[.int .i64 p.m, .int .i64 p.s, .int .i64 p.a] 55)).drew) W.heap.size p := heap_alloc_new _ _
    have hP1 := hP.kp0 hK1
    have hX1 := hX.kp0 hK1
    have hG1 := hG.kp0 hK1
    have hr1 := hr0.kp0 hK1
    have hK2 := hK0.trans hK1
    generalize (W.alloc (.cells #[.int .i64 p.m, .int .i64 p.s, .int .i64 p.a] 55)).drew = W2 at hK2 hZ hP1 hX1 hG1 hr1 ⊢
    have p0 := hP1.c0
    have p1 := hP1.c1
    have p2 := hP1.c2
    have z0 := hZ.c0
    have z1 := hZ.c1
    have z2 := hZ.c2
    have c0 := hG1.c0
    have hlk := fun k => hG1.lookR p hp k
    rw [hBh.out] at hlk
    clear hK1 hK0 hG hX hP hSh hr0 hr
    cases t with
    | false =>
      have hlk' : ∀ k, Sem.run Try.prog (Instr.lookup 103 (.map (some rm)) (.agg #[.int .i64 p.m, .int .i64 p.s, .int .i64 p.a]) false) (W2.drewN k) = .ok (.iface 108 (.pointer (some ⟨b, 0, .none⟩))) (W2.drewN k) := hlk
      clear hlk
      have q2 := ta_ll
      go_wp2_with fail
      go_quiet (fail)
      have hP3 := hP1.kp0 ((Kp.refl _ W2).drewN nq)
      have hX3 := hX1.kp0 ((Kp.refl _ W2).drewN nq)
      have hG3 := hG1.kp0 ((Kp.refl _ W2).drewN nq)
      have hr3 := hr1.kp0 ((Kp.refl _ W2).drewN nq)
      have hK3 := hK2.drewN nq
      clear hlk' p0 p1 p2 z0 z1 z2 c0 hP1 hX1 hG1 hr1 hK2 hZ
      generalize W2.drewN nq = W3 at hP3 hX3 hG3 hr3 hK3 ⊢
      have x0 := hX3.c0
      have x1 := hX3.c1
      go_wp2_with fail
      refine (list_remove (show ListAt W3 b (Sp p) (pre ++ x :: post) from hr3)).mono ?_
      rintro e w4 ⟨rfl, S1, hl4, hk4, hS1⟩
      have hP4 := hP3.kp hk4 (hn0 _ (Nat.le_refl _))
      have hX4 := hX3.kp hk4 (hn0 _ (Nat.le_succ _))
      have hG4 := hG3.kp hk4 (fun k hk hs => (h.dis p k hs).2 (by
        rcases hk with rfl | hk
        · exact absurd rfl (h.dis p k hs).1
        · exact hk))
      have hK4 : Kp (Sp p) w w4 := (hK3.mono (fun _ _ h => h.elim)).trans hk4
      clear x0 x1 hP3 hX3 hG3 hr3 hK3 hk4
      have p0 := hP4.c0
      have p1 := hP4.c1
      have p2 := hP4.c2
      have x0 := hX4.c0
      have x1 := hX4.c1
      go_wp2_with fail
      refine (graph_goes hG4 p hp x hx n hn hByh.out hBh.out (show RowAt _ false b S1 (pre ++ post) from hl4) (fun k hk => (h.dis p k (hS1 k hk)).2)).mono ?_
      rintro e w5 ⟨rfl, hgp⟩
      go_wp2_with fail
      go_ret
      exact ⟨rfl, gw_goes h hSS hBh.out hRh.out hByh.out (show RowAt _ false b S1 (pre ++ post) from hl4) hS1 hK4 hgp⟩
    | true =>
      have hlk' : ∀ k, Sem.run Try.prog (Instr.lookup 103 (.map (some rm)) (.agg #[.int .i64 p.m, .int .i64 p.s, .int .i64 p.a]) false) (W2.drewN k) = .ok (.iface 24 (.pointer (some ⟨b, 0, .none⟩))) (W2.drewN k) := hlk
      clear hlk
      have q2 := ta_tl
      have q3 := ta_tt
      go_wp2_with fail
      go_quiet (fail)
      have hP3 := hP1.kp0 ((Kp.refl _ W2).drewN nq)
      have hX3 := hX1.kp0 ((Kp.refl _ W2).drewN nq)
      have hG3 := hG1.kp0 ((Kp.refl _ W2).drewN nq)
      have hr3 := hr1.kp0 ((Kp.refl _ W2).drewN nq)
      have hK3 := hK2.drewN nq
      clear hlk' p0 p1 p2 z0 z1 z2 c0 hP1 hX1 hG1 hr1 hK2 hZ
      generalize W2.drewN nq = W3 at hP3 hX3 hG3 hr3 hK3 ⊢
      have x0 := hX3.c0
      have x1 := hX3.c1
      go_wp2_with fail
      refine (tree_remove (show TreeAt W3 b (Sp p) (pre ++ x :: post) from hr3) x hx (by omega)).mono ?_
      rintro e w4 ⟨hcase, hk4⟩
      obtain ⟨rfl, hl4⟩ : e = .returned (.tuple #[.int .i64 pre.length, .bool true]) ∧ TreeAt w4 b (Sp p) (pre ++ post) := by
        rcases hcase with ⟨h1, _⟩ | ⟨pre', post', h1, h2, h3⟩
        · exact absurd (by simp) h1
        · obtain ⟨e1, e2⟩ := nodup_parts hnd h1
          rw [e1, e2]
          exact ⟨h2, h3⟩
      have hS1 : ∀ k, Sp p k → Sp p k := fun k hk => hk
      have hP4 := hP3.kp hk4 (hn0 _ (Nat.le_refl _))
      have hX4 := hX3.kp hk4 (hn0 _ (Nat.le_succ _))
      have hG4 := hG3.kp hk4 (fun k hk hs => (h.dis p k hs).2 (by
        rcases hk with rfl | hk
        · exact absurd rfl (h.dis p k hs).1
        · exact hk))
      have hK4 : Kp (Sp p) w w4 := (hK3.mono (fun _ _ h => h.elim)).trans hk4
      clear x0 x1 hP3 hX3 hG3 hr3 hK3 hk4
      have p0 := hP4.c0
      have p1 := hP4.c1
      have p2 := hP4.c2
      have x0 := hX4.c0
      have x1 := hX4.c1
      go_wp2_with fail
      refine (graph_goes hG4 p hp x hx n hn hByh.out hBh.out (show RowAt _ true b (Sp p) (pre ++ post) from hl4) (fun k hk => (h.dis p k (hS1 k hk)).2)).mono ?_
      rintro e w5 ⟨rfl, hgp⟩
      go_wp2_with fail
      go_ret
      exact ⟨rfl, gw_goes h hSS hBh.out hRh.out hByh.out (show RowAt _ true b (Sp p) (pre ++ post) from hl4) hS1 hK4 hgp⟩

/-- A graph behind a Remove. -/
noncomputable def gRem (g : GS) (p : Plc) (x : Hd) (n : Int) : GS := if g.In (x, n) = some p then gdel g p (isTreeG g p) ((rowL g p).erase x) x n else g
theorem gr_remove (h : GraphAt w gb S g) (p : Plc) (hp : p.ok) (x : Hd) (hx : x.ok) (n : Int) (hn : nwf n) (small : (rowL g p).length < 1000000) :
    Calls Try.prog 30 #[.pointer (some ⟨gb, 0, .none⟩), .agg #[.int .i64 p.m, .int .i64 p.s, .int .i64 p.a], .agg #[.int .i64 x.s, .int .u64 x.g], .int .i64 n] w fun e w' => e = .returned (.bool (decide (g.In (x, n) = some p))) ∧ DelPost w gb S (gRem g p x n) w' := by
  have h0 := h
  obtain ⟨rm, im, bm, B, Sp, h1, h2⟩ := h
  by_cases hIn : g.In (x, n) = some p
  · have hBy := (h1.ok.bi p x n).2 hIn
    obtain ⟨t, L, hR, hxL⟩ := h1.ok.by1 p x n hBy
    have hl := rowL_some hR
    unfold gRem
    rw [if_pos hIn, decide_eq_true hIn, hl]
    have ht : isTreeG g p = t := by unfold isTreeG; rw [hR]; cases t <;> rfl
    rw [ht]
    cases hB : B p with
    | none => rw [(h1.n p hB).1] at hR; cases hR
    | some r =>
      obtain ⟨t', b⟩ := r
      obtain ⟨L', h3, h4⟩ := h1.r p t' b hB
      rw [hR] at h3
      cases h3
      exact gremove_ok h1 p hp x hx n hn h2 hIn hB hR h4 hBy hxL (hl ▸ small)
  · unfold gRem
    rw [if_neg hIn, decide_eq_false hIn]
    refine (gremove_out h1 p hp x hx n hn hIn).mono ?_
    rintro e w' ⟨rfl, hk⟩
    exact ⟨rfl, S, h0.kp0 hk, hk.mono (fun _ _ h => h.elim), fun k hk => hk⟩
end
end Go.Proofs.Ytimhbnlgambcaaa
