/- The reference's list of handles: the walks of Put, Cut, Insert. -/
import Derived.Test.YtimhbnlgambcaaaRb
import Derived.Test.YtimhbnlgambcaaaWa
namespace Go.Proofs.Ytimhbnlgambcaaa
open Go.RowKit Go.BigFrame

theorem Reads.of_slice {w : World} {base n : Nat} {e : TypeId} {size : Nat} {v : Value} {xs : List Value} (h : w.ownsRow base e size v n xs) : ∃ A c, v = .slice A n c ∧ n ≤ c ∧ Reads w w.heap.size size A n xs := by
  rcases hn : h.2 with ⟨rfl, rfl⟩ | ⟨g, cap, cur, rfl, h1, h2, h3, h4⟩
  · exact ⟨.none, 0, rfl, Nat.le_refl _, Reads.of_own h⟩
  · exact ⟨_, _, rfl, h3, Reads.of_own h⟩
theorem Reads.take {w : World} {B size n : Nat} {A : Option Addr} {xs : List Value} (h : Reads w B size A n xs) {i : Nat} (hi : i ≤ n) : Reads w B size A i (xs.take (i * size)) := by
  refine ⟨by rw [List.length_take, h.1]; exact Nat.min_eq_left (Nat.mul_le_mul_right _ hi), fun hp => ?_⟩
  obtain ⟨ad, e, hb, hc⟩ := h.2 (by omega)
  refine ⟨ad, e, hb, fun j u hu => hc j u ?_⟩
  rw [List.getElem?_take] at hu
  split at hu
  · exact hu
  · cases hu
theorem Reads.cut0 {w : World} {B size n g : Nat} {xs : List Value} (h : Reads w B size (some ⟨g, 0, .none⟩) n xs) {k cap : Nat} (hk : k ≤ n) (hc : n ≤ cap) :
    Reads w B size (if cap = k then some ⟨g, 0, .none⟩ else some ⟨g, k * size, .none⟩) (n - k) (xs.drop (k * size)) := by
  have := h.cut hk hc
  have e : (Option.map (fun a : Addr => a.add (k * size)) (some ⟨g, 0, .none⟩)) = some ⟨g, k * size, .none⟩ := by
    simp [Addr.add]
    omega
  rw [e] at this
  exact this
theorem HBox.fz {W : World} {B : Nat} {h : Hd} (hb : HBox W B h) (i : Nat) : W.frozen? ⟨B, i, .none⟩ = false := by simp [World.frozen?, show W.heap[B]? = _ from hb]
theorem flatH_append (a b : List Hd) : flatH (a ++ b) = flatH a ++ flatH b := by simp [flatH]
theorem flatH_take : ∀ (L : List Hd) (i : Nat), (flatH L).take (i * 2) = flatH (L.take i)
  | _, 0 => by simp [flatH]
  | [], i + 1 => by simp [flatH]
  | a :: L, i + 1 => by
    have := flatH_take L i
    have e : (i + 1) * 2 = i * 2 + 2 := by omega
    rw [e]
    simpa [flatH] using this
theorem flatH_drop : ∀ (L : List Hd) (i : Nat), (flatH L).drop (i * 2) = flatH (L.drop i)
  | _, 0 => by simp [flatH]
  | [], i + 1 => by simp [flatH]
  | a :: L, i + 1 => by
    have := flatH_drop L i
    have e : (i + 1) * 2 = i * 2 + 2 := by omega
    rw [e]
    simpa [flatH] using this
theorem flatH_one (L : List Hd) : ∀ u ∈ flatH L, u.oneCell' = true := by
  intro u hu
  simp [flatH] at hu
  obtain ⟨a, _, rfl | rfl⟩ := hu <;> simp [Value.oneCell']

set_option maxRecDepth 100000 in
set_option maxHeartbeats 2000000 in
theorem ref_put (w : World) (B rb : Nat) (L : List Hd) (hR : RL w B rb L) (i : Nat) (hi : i ≤ L.length) (x : Hd) (small : L.length ≤ 100000) :
    Calls Try.prog 49 #[.pointer (some ⟨rb, 0, .none⟩), .int .i64 i, .agg #[.int .i64 x.s, .int .u64 x.g]] w fun e w' =>
      e = .returned (.tuple #[]) ∧ RL w' w.heap.size rb (L.take i ++ x :: L.drop i) ∧ Kp (fun k => k = rb) w w' := by
  obtain ⟨v, hb, hr⟩ := hR
  obtain ⟨A, c, rfl, hnc, hrd⟩ := Reads.of_slice hr
  obtain ⟨i0, hinf, hz0, hz1, hz2⟩ := info_parts info34
  have hlt : rb < w.heap.size := lt_of_block hb
  have hi1 : (i : Int) ≤ L.length := by omega
  have hs1 : (L.length : Int) ≤ 100000 := by omega
  have hc1 : (L.length : Int) ≤ c := by omega
  have hcl := Lib.hid hb
  have c0 : w.cell? ⟨rb, 0, .none⟩ = some (.slice A L.length c) := by simp [World.cell?, hb]
  have f0 : w.frozen? ⟨rb, 0, .none⟩ = false := by simp [World.frozen?, hb]
  have hrl := Lib.hid hr
  clear hb hr
  have hlen := (flatH_len L)
  have hlt2 := Lib.hid hlen
  clear hlen
  have hB0 : Below w.heap.size w (w.alloc (.cells #[.int .i64 x.s, .int .u64 x.g] 34)) := (Below.refl _ _).alloc (Nat.le_refl _) _
  have hbx0 : HBox (w.alloc (Obj.cells #[Value.int IntKind.i64 x.s, Value.int IntKind.u64 x.g] 34)) w.heap.size x := heap_alloc_new _ _
  go_enter Try.func49, Try.ntmps49
  go_wp2_with (first
    | (at_builtin
       refine wpList_append_any _ rfl (.tmp 7) (.tmp 13) _ rfl w.heap.size 34 i0 _ 2 16 Try.underlying27 hinf hz0 hz1 hz2 rfl (by omega) (.slice none 0 0) 0 [] rfl
         ⟨by simp, .inl ⟨rfl, rfl⟩⟩ w.heap.size _ i c ((flatH L).take (i * 2)) rfl ((hrd.take hi).alloc (Nat.le_refl _) _) (fun u hu => flatH_one L u (List.mem_of_mem_take hu)) (by simp only [maxLen]; omega) (by omega) (by simp) ?_
       intro v1 w1 hown1 hg1 hat1
       have hbx1 : HBox w1 w.heap.size x := (hg1.block _ hbx0.lt (by simp [Value.ownBlock])).trans hbx0
       have e0 := hbx1.c0
       have e1 := hbx1.c1
       have el := hbx1.lt
       have hB1 : Below w.heap.size w w1 := hB0.grown hg1 hB0.size (by simp [Value.ownBlock]))
    | (at_builtin
       refine wpList_append_own_at _ rfl (.tmp 15) (.tmp 17) _ rfl w.heap.size 34 i0 _ 2 16 Try.underlying27 hinf hz0 hz1 hz2 rfl (by omega) v1 (0 + i) _ rfl
         (hown1.alloc _) ⟨w1.heap.size, 0, .none⟩ 1 1 [.int .i64 x.s, .int .u64 x.g] rfl rfl (cells_two_new _ _ _ _) (by simp [Value.oneCell']) (by simp only [maxLen]; omega) (by omega) (by have := hB1.size; simp; omega) ?_
       intro v2 w2 hown2 hg2 _ hat2
       have hB2 : Below w.heap.size w w2 := (hB1.alloc hB1.size _).grown hg2 (by have := hB1.size; simp; omega) (fun k hk => (hown1.lt k hk).1)
       have c02 := (hB2.cell (p := ⟨rb, 0, .none⟩) hlt).trans c0
       have f02 := (hB2.frozen (p := ⟨rb, 0, .none⟩) hlt).trans f0)
    | (at_builtin
       refine wpList_append_any _ rfl (.tmp 20) (.tmp 26) _ rfl w.heap.size 34 i0 _ 2 16 Try.underlying27 hinf hz0 hz1 hz2 rfl (by omega) v2 _ _ rfl
         hown2 w.heap.size _ (L.length - i) _ ((flatH L).drop (i * 2)) rfl ((hrd.below hB2).cut hi hnc) (fun u hu => flatH_one L u (List.mem_of_mem_drop hu)) (by simp only [maxLen]; omega) (by omega) hB2.size ?_
       intro v3 w3 hown3 hg3 hat3
       obtain ⟨A3, c3, rfl, _, _⟩ := Reads.of_slice hown3
       have hB3 : Below w.heap.size w w3 := hB2.grown hg3 hB2.size (fun k hk => (hown2.lt k hk).1)
       have c03 := (hB3.cell (p := ⟨rb, 0, .none⟩) hlt).trans c0
       have f03 := (hB3.frozen (p := ⟨rb, 0, .none⟩) hlt).trans f0))
  all_goals
    go_end0
    refine ⟨rfl, ⟨_, heap_setCell_self ((hB3.block rb hlt).trans hcl.out) 0 _, ?_⟩, ?_⟩
    · have h3 := ownsRow_setCell_below hown3 (a := ⟨rb, 0, .none⟩) hlt (.slice A3 (0 + i + 1 + (L.length - i)) c3)
      have e0 : 0 + i + 1 + (L.length - i) = i + 1 + (L.length - i) := by omega
      rw [flatH_take, flatH_drop] at h3
      have e1 : (L.take i ++ x :: L.drop i).length = 0 + i + 1 + (L.length - i) := by simp; omega
      rw [e1]
      have e2 : flatH (L.take i ++ x :: L.drop i) = [] ++ flatH (L.take i) ++ [.int .i64 x.s, .int .u64 x.g] ++ flatH (L.drop i) := by simp [flatH]
      rw [e2]
      rw [e0] at h3 ⊢
      exact h3
    · exact Kp.setCell (S := fun k => k = rb) ⟨hB3.os, hB3.tape, hB3.output, hB3.size, fun k hk _ => hB3.block k hk⟩ rb 0 _ rfl

set_option maxRecDepth 100000 in
set_option maxHeartbeats 2000000 in
theorem ref_cut (w : World) (B rb : Nat) (L : List Hd) (hR : RL w B rb L) (i : Nat) (x : Hd) (hx : L[i]? = some x) (small : L.length ≤ 100000) :
    Calls Try.prog 13 #[.pointer (some ⟨rb, 0, .none⟩), .int .i64 i] w fun e w' =>
      e = .returned (.agg #[.int .i64 x.s, .int .u64 x.g]) ∧ RL w' w.heap.size rb (L.take i ++ L.drop (i + 1)) ∧ Kp (fun k => k = rb) w w' := by
  have hi : i < L.length := (List.getElem?_eq_some_iff.1 hx).1
  obtain ⟨v, hb, hr⟩ := hR
  obtain ⟨A, c, rfl, hnc, hrd⟩ := Reads.of_slice hr
  obtain ⟨g, c', hv, _, hgl⟩ := hr.form (by omega)
  cases hv
  have x0 := hr.cellAt (i * 2) (by omega)
  have x1 := hr.cellAt (i * 2 + 1) (by omega)
  rw [(flatH_at hx).1] at x0
  rw [(flatH_at hx).2] at x1
  obtain ⟨i0, hinf, hz0, hz1, hz2⟩ := info_parts info34
  have hlt : rb < w.heap.size := lt_of_block hb
  have hi1 : (i : Int) < L.length := by omega
  have hs1 : (L.length : Int) ≤ 100000 := by omega
  have hc1 : (L.length : Int) ≤ c := by omega
  have hcl := Lib.hid hb
  have c0 : w.cell? ⟨rb, 0, .none⟩ = some (.slice (some ⟨g, 0, .none⟩) L.length c) := by simp [World.cell?, hb]
  have f0 : w.frozen? ⟨rb, 0, .none⟩ = false := by simp [World.frozen?, hb]
  have hrl := Lib.hid hr
  have hxl := Lib.hid hx
  clear hb hr hx
  have hlen := (flatH_len L)
  have hlt2 := Lib.hid hlen
  clear hlen
  have z34 : (zeroValue 34).run Try.prog w = .ok (.agg #[.int .i64 0, .int .u64 0]) w := by kernel_rfl
  have hB0 : Below w.heap.size w ((w.alloc (.cells #[.int .i64 0, .int .u64 0] 34)).alloc (.cells #[.int .i64 x.s, .int .u64 x.g] 34)) := ((Below.refl _ _).alloc (Nat.le_refl _) _).alloc (by simp) _
  have hbz0 : HBox ((w.alloc (.cells #[.int .i64 0, .int .u64 0] 34)).alloc (.cells #[.int .i64 x.s, .int .u64 x.g] 34)) w.heap.size ⟨0, 0⟩ := (Below.heap_alloc _ _ _ (by simp)).trans (heap_alloc_new w _)
  have hbx0 : HBox ((w.alloc (.cells #[.int .i64 0, .int .u64 0] 34)).alloc (.cells #[.int .i64 x.s, .int .u64 x.g] 34)) (w.heap.size + 1) x := by
    have := heap_alloc_new (w.alloc (.cells #[.int .i64 0, .int .u64 0] 34)) (.cells #[.int .i64 x.s, .int .u64 x.g] 34)
    rw [World.size_alloc] at this
    exact this
  go_enter Try.func13, Try.ntmps13
  go_wp2_with (first
    | (at_builtin
       refine wpList_append_any _ rfl (.tmp 14) (.tmp 20) _ rfl w.heap.size 34 i0 _ 2 16 Try.underlying27 hinf hz0 hz1 hz2 rfl (by omega) (.slice none 0 0) 0 [] rfl
         ⟨by simp, .inl ⟨rfl, rfl⟩⟩ w.heap.size _ i c ((flatH L).take (i * 2)) rfl ((hrd.take (Nat.le_of_lt hi)).below hB0) (fun u hu => flatH_one L u (List.mem_of_mem_take hu)) (by simp only [maxLen]; omega) (by omega) hB0.size ?_
       intro v1 w1 hown1 hg1 hat1
       have hbz1 : HBox w1 w.heap.size ⟨0, 0⟩ := (hg1.block _ hbz0.lt (by simp [Value.ownBlock])).trans hbz0
       have hbx1 : HBox w1 (w.heap.size + 1) x := (hg1.block _ hbx0.lt (by simp [Value.ownBlock])).trans hbx0
       have hB1 : Below w.heap.size w w1 := hB0.grown hg1 hB0.size (by simp [Value.ownBlock])
       have c01 := (hB1.cell (p := ⟨rb, 0, .none⟩) hlt).trans c0)
    | (at_builtin
       refine wpList_append_any _ rfl (.tmp 23) (.tmp 30) _ rfl w.heap.size 34 i0 _ 2 16 Try.underlying27 hinf hz0 hz1 hz2 rfl (by omega) v1 _ _ rfl
         hown1 w.heap.size _ (L.length - (i + 1)) _ ((flatH L).drop ((i + 1) * 2)) rfl ((hrd.below hB1).cut0 hi hnc) (fun u hu => flatH_one L u (List.mem_of_mem_drop hu)) (by simp only [maxLen]; omega) (by omega) hB1.size ?_
       intro v3 w3 hown3 hg3 hat3
       obtain ⟨A3, c3, rfl, _, _⟩ := Reads.of_slice hown3
       have hB3 : Below w.heap.size w w3 := hB1.grown hg3 hB1.size (fun k hk => (hown1.lt k hk).1)
       have c03 := (hB3.cell (p := ⟨rb, 0, .none⟩) hlt).trans c0
       have f03 := (hB3.frozen (p := ⟨rb, 0, .none⟩) hlt).trans f0
       have hob : ∀ k, k ≤ w.heap.size + 1 → some k ≠ v1.ownBlock := fun k hk e => by rcases hat1 with e1 | e1 <;> rw [e1] at e <;> simp [Value.ownBlock] at e; omega
       have hbx3 : HBox w3 (w.heap.size + 1) x := (hg3.block _ hbx1.lt (hob _ (Nat.le_refl _))).trans hbx1
       have hbz3 : HBox w3 w.heap.size ⟨0, 0⟩ := (hg3.block _ hbz1.lt (hob _ (by omega))).trans hbz1
       clear hob
       have p0 := hbx3.c0
       have p1 := hbx3.c1
       have pl := hbx3.lt
       have q0 := hbz3.c0
       have q1 := hbz3.c1
       have qf0 := hbz3.fz 0
       have qf1 := hbz3.fz 1))
  all_goals
    have e0 : 0 + i + (L.length - (i + 1)) = i + (L.length - (i + 1)) := by omega
    have hob : (Value.slice A3 (i + (L.length - (i + 1))) c3).ownBlock ≠ some w.heap.size := by
      rw [e0] at hat3
      intro e
      rw [e] at hat3
      rcases hat3 with h3 | h3
      · rw [← h3] at hat1
        rcases hat1 with h1 | h1 <;> simp [Value.ownBlock] at h1
        omega
      · simp at h3
        have := hbz1.lt
        omega
    have hz5 := heap_setCell_self (heap_setCell_self ((Below.heap_setCell w3 ⟨rb, 0, .none⟩ (.slice A3 (i + (L.length - (i + 1))) c3) w.heap.size (by simp; omega)).trans hbz3) 0 (.int .i64 x.s)) 1 (.int .u64 x.g)
    have hr5 := (Below.heap_setCell ((w3.setCell ⟨rb, 0, .none⟩ (.slice A3 (i + (L.length - (i + 1))) c3)).setCell ⟨w.heap.size, 0, .none⟩ (.int .i64 x.s)) ⟨w.heap.size, 1, .none⟩ (.int .u64 x.g) rb (by simp; omega)).trans
      ((Below.heap_setCell (w3.setCell ⟨rb, 0, .none⟩ (.slice A3 (i + (L.length - (i + 1))) c3)) ⟨w.heap.size, 0, .none⟩ (.int .i64 x.s) rb (by simp; omega)).trans (heap_setCell_self ((hB3.block rb hlt).trans hcl.out) 0 (.slice A3 (i + (L.length - (i + 1))) c3)))
    have hK3 : Kp (fun k => k = rb) w w3 := ⟨hB3.os, hB3.tape, hB3.output, hB3.size, fun k hk _ => hB3.block k hk⟩
    refine bodyPost_ret (v := .agg #[.int .i64 x.s, .int .u64 x.g]) ?_ rfl ⟨rfl, ⟨.slice A3 (i + (L.length - (i + 1))) c3, hr5, ?_⟩, ?_⟩
    · rw [results_cell_row rfl _ _ w.heap.size 34 #[.int .i64 x.s, .int .u64 x.g] (0, 0) _ rfl hz5 Try.underlying34 rfl (by kernel_rfl)]
    · have h3 := ownsRow_setCell_below hown3 (a := ⟨rb, 0, .none⟩) hlt (.slice A3 (i + (L.length - (i + 1))) c3)
      rw [flatH_take, flatH_drop] at h3
      have e1 : (L.take i ++ L.drop (i + 1)).length = 0 + i + (L.length - (i + 1)) := by simp; omega
      rw [e1]
      have e2 : flatH (L.take i ++ L.drop (i + 1)) = [] ++ flatH (L.take i) ++ flatH (L.drop (i + 1)) := by simp [flatH]
      rw [e2]
      rw [e0] at h3 ⊢
      exact ownsRow_setCell_other (ownsRow_setCell_other h3 (a := ⟨w.heap.size, 0, .none⟩) hob _) (a := ⟨w.heap.size, 1, .none⟩) hob _
    · exact ((hK3.setCell rb 0 _ rfl).setNew _ _ _ (Nat.le_refl _)).setNew _ _ _ (Nat.le_refl _)

theorem rl_mono {w : World} {base base' : Nat} {e : TypeId} {size : Nat} {v : Value} {n : Nat} {xs : List Value} (h : w.ownsRow base e size v n xs) (hb : base' ≤ base) : w.ownsRow base' e size v n xs :=
  ⟨h.1, h.2.imp id fun ⟨g, cap, cur, h1, h2, h3⟩ => ⟨g, cap, cur, h1, Nat.le_trans hb h2, h3⟩⟩
theorem RL.kp {w w' : World} {B rb : Nat} {L : List Hd} {S : Nat → Prop} (h : RL w B rb L) (hk : Kp S w w') (hr : ¬ S rb) (hS : ∀ v g, w.heap[rb]? = some (.cells #[v] 31 (0, 0)) → v.ownBlock = some g → ¬ S g) : RL w' B rb L := by
  obtain ⟨v, hb, ho⟩ := h
  refine ⟨v, (hk.block rb (lt_of_block hb) hr).trans hb, ?_⟩
  rcases ho.2 with ⟨rfl, hn⟩ | ⟨g, cap, cur, rfl, h1, h2, h3⟩
  · exact ⟨ho.1, .inl ⟨rfl, hn⟩⟩
  · exact ⟨ho.1, .inr ⟨g, cap, cur, rfl, h1, (hk.block g (lt_of_block h2) (hS _ g hb rfl)).trans h2, h3⟩⟩
theorem RL.kp0 {w w' : World} {B rb : Nat} {L : List Hd} (h : RL w B rb L) (hk : Kp (fun _ => False) w w') : RL w' B rb L := h.kp hk (fun h => h) (fun _ _ _ _ h => h)

theorem nodup_at {L : List Hd} (nd : L.Nodup) {i j : Nat} {x : Hd} (hi : L[i]? = some x) (hj : L[j]? = some x) : i = j := by
  obtain ⟨hi1, hi2⟩ := List.getElem?_eq_some_iff.1 hi
  obtain ⟨hj1, hj2⟩ := List.getElem?_eq_some_iff.1 hj
  have nd' := List.pairwise_iff_getElem.1 nd
  rcases Nat.lt_trichotomy i j with h | h | h
  · exact absurd (hi2.trans hj2.symm) (nd' i j hi1 hj1 h)
  · exact h
  · exact absurd (hj2.trans hi2.symm) (nd' j i hj1 hi1 h)
theorem ref_at_in (w : World) (B rb : Nat) (L : List Hd) (hR : RL w B rb L) (nd : L.Nodup) (x : Hd) (i : Nat) (hi : L[i]? = some x) (small : L.length ≤ 100000) :
    Calls Try.prog 11 #[.pointer (some ⟨rb, 0, .none⟩), .agg #[.int .i64 x.s, .int .u64 x.g]] w fun e w' => e = .returned (.int .i64 i) ∧ Kp (fun _ => False) w w' := by
  refine (ref_at w B rb L hR x small).mono ?_
  rintro e w' ⟨⟨hn, rfl⟩ | ⟨j, hj, rfl⟩, hk⟩
  · exact absurd (List.mem_of_getElem? hi) hn
  · obtain rfl := nodup_at nd hi hj
    exact ⟨rfl, hk⟩
theorem ref_at_out (w : World) (B rb : Nat) (L : List Hd) (hR : RL w B rb L) (x : Hd) (hx : x ∉ L) (small : L.length ≤ 100000) :
    Calls Try.prog 11 #[.pointer (some ⟨rb, 0, .none⟩), .agg #[.int .i64 x.s, .int .u64 x.g]] w fun e w' => e = .returned (.int .i64 (-1)) ∧ Kp (fun _ => False) w w' := by
  refine (ref_at w B rb L hR x small).mono ?_
  rintro e w' ⟨⟨hn, rfl⟩ | ⟨j, hj, rfl⟩, hk⟩
  · exact ⟨rfl, hk⟩
  · exact absurd (List.mem_of_getElem? hj) hx

set_option maxRecDepth 100000 in
set_option maxHeartbeats 2000000 in
theorem ref_insert_neg (w : World) (_B rb : Nat) (i : Int) (x : Hd) (hi : i < 0) (_hlt : rb < w.heap.size) :
    Calls Try.prog 15 #[.pointer (some ⟨rb, 0, .none⟩), .int .i64 i, .agg #[.int .i64 x.s, .int .u64 x.g]] w fun e w' => e = .returned (.int .i64 2) ∧ Kp (fun _ => False) w w' := by
  go_enter Try.func15, Try.ntmps15
  go_wp2_with fail
  go_ret
  exact ⟨rfl, (Kp.refl _ _).alloc _⟩
set_option maxRecDepth 100000 in
set_option maxHeartbeats 2000000 in
theorem ref_insert_big (w : World) (B rb : Nat) (L : List Hd) (hR : RL w B rb L) (i : Int) (x : Hd) (hi : (L.length : Int) < i) (small : L.length ≤ 100000) :
    Calls Try.prog 15 #[.pointer (some ⟨rb, 0, .none⟩), .int .i64 i, .agg #[.int .i64 x.s, .int .u64 x.g]] w fun e w' => e = .returned (.int .i64 2) ∧ Kp (fun _ => False) w w' := by
  obtain ⟨a, cap, hc, hlt, hg⟩ := hR.shape
  have hs : (L.length : Int) ≤ 100000 := by omega
  have hi0 : ¬ i < 0 := by omega
  go_enter Try.func15, Try.ntmps15
  go_wp2_with fail
  go_ret
  exact ⟨rfl, (Kp.refl _ _).alloc _⟩
set_option maxRecDepth 100000 in
set_option maxHeartbeats 2000000 in
theorem ref_insert_in (w : World) (B rb : Nat) (L : List Hd) (hR : RL w B rb L) (i : Int) (x : Hd) (hi : 0 ≤ i) (hi2 : i ≤ L.length) (nd : L.Nodup) (k : Nat) (hx : L[k]? = some x) (small : L.length ≤ 100000) :
    Calls Try.prog 15 #[.pointer (some ⟨rb, 0, .none⟩), .int .i64 i, .agg #[.int .i64 x.s, .int .u64 x.g]] w fun e w' => e = .returned (.int .i64 7) ∧ Kp (fun _ => False) w w' := by
  obtain ⟨a, cap, hc, hlt, hg⟩ := hR.shape
  have hs : (L.length : Int) ≤ 100000 := by omega
  have hi0 : ¬ i < 0 := by omega
  have hi3 : ¬ (L.length : Int) < i := by omega
  clear hg
  go_enter Try.func15, Try.ntmps15
  go_wp2_with fail
  have hbx : HBox (w.alloc (Obj.cells #[Value.int IntKind.i64 x.s, Value.int IntKind.u64 x.g] 34)) w.heap.size x := heap_alloc_new _ _
  have hK : Kp (fun _ => False) w (w.alloc (Obj.cells #[Value.int IntKind.i64 x.s, Value.int IntKind.u64 x.g] 34)) := (Kp.refl _ _).alloc _
  have p0 := hbx.c0
  have p1 := hbx.c1
  have hR1 := Lib.hid (hR.kp0 hK)
  have hxh := Lib.hid hx
  have hk0 : (0 : Int) ≤ k := by omega
  clear hx
  go_region_with (go_at_call 11; refine (ref_at_in _ B rb L (hR1.out.kp0 (Kp.refl _ _).drew) nd x k hxh.out small).mono ?_; rintro e w1 ⟨rfl, hk1⟩)
  go_wp2_with fail
  go_ret
  exact ⟨rfl, (hK.drew).trans hk1⟩
set_option maxRecDepth 100000 in
set_option maxHeartbeats 2000000 in
theorem ref_insert_ok (w : World) (B rb : Nat) (L : List Hd) (hR : RL w B rb L) (i : Nat) (x : Hd) (hi2 : i ≤ L.length) (hx : x ∉ L) (small : L.length ≤ 100000) :
    Calls Try.prog 15 #[.pointer (some ⟨rb, 0, .none⟩), .int .i64 i, .agg #[.int .i64 x.s, .int .u64 x.g]] w fun e w' => e = .returned (.int .i64 0) ∧ RL w' w.heap.size rb (L.take i ++ x :: L.drop i) ∧ Kp (fun k => k = rb) w w' := by
  obtain ⟨a, cap, hc, hlt, hg⟩ := hR.shape
  have hs : (L.length : Int) ≤ 100000 := by omega
  have hi0 : ¬ (i : Int) < 0 := by omega
  have hi3 : ¬ (L.length : Int) < (i : Int) := by omega
  clear hg
  go_enter Try.func15, Try.ntmps15
  go_wp2_with fail
  have hbx : HBox (w.alloc (Obj.cells #[Value.int IntKind.i64 x.s, Value.int IntKind.u64 x.g] 34)) w.heap.size x := heap_alloc_new _ _
  have hK : Kp (fun _ => False) w (w.alloc (Obj.cells #[Value.int IntKind.i64 x.s, Value.int IntKind.u64 x.g] 34)) := (Kp.refl _ _).alloc _
  have p0 := hbx.c0
  have p1 := hbx.c1
  have hR1 := Lib.hid (hR.kp0 hK)
  have hxh := Lib.hid hx
  clear hx
  go_region_with (go_at_call 11; refine (ref_at_out _ B rb L (hR1.out.kp0 (Kp.refl _ _).drew) x hxh.out small).mono ?_; rintro e w1 ⟨rfl, hk1⟩)
  have hK1 := hK.drew.trans hk1
  have hbx1 := hbx.kp ((Kp.refl _ _).drew.trans hk1) (fun h => h)
  have hR2 := hR.kp0 hK1
  have q0 := hbx1.c0
  have q1 := hbx1.c1
  go_wp2_with fail
  go_region_with (go_at_call 49; refine (ref_put _ B rb L (hR2.kp0 (Kp.refl _ _).drew) i hi2 x small).mono ?_; rintro e w2 ⟨rfl, hR3, hk2⟩)
  go_wp2_with fail
  go_ret
  obtain ⟨v, hv1, hv2⟩ := hR3
  exact ⟨rfl, ⟨v, hv1, rl_mono hv2 hK1.size⟩, (hK1.drew.mono (fun _ _ h => h.elim)).trans hk2⟩
end Go.Proofs.Ytimhbnlgambcaaa
