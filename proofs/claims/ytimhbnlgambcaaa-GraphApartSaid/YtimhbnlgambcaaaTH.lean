/- The walks of Index, At, Deep. -/
import Derived.Test.YtimhbnlgambcaaaTG
import Derived.Test.YtimhbnlgambcaaaPb
import Derived.Deep.RegionWith
namespace Go.Proofs.Ytimhbnlgambcaaa
open Go.RowKit

set_option maxRecDepth 100000 in
set_option maxHeartbeats 1000000 in
theorem index_no (w : World) (tb mb n : Nat) (root : Option Nat) (H : Hp) (F : Hd → Option Nat) (hT : TW w tb mb n root H F) (h : Hd) (hk : h.ok) (hF : F h = .none) :
    Calls Try.prog 17 #[.pointer (some ⟨tb, 0, .none⟩), .agg #[.int .i64 h.s, .int .u64 h.g]] w fun e w' => e = .returned (.tuple #[.int .i64 0, .bool false]) ∧ TW w' tb mb n root H F ∧ Kp (fun _ => False) w w' := by
  have t1 := hT.r.t.c1
  have tl := hT.r.t.lt
  have hlk := fun o k => hlook (w.alloc o) mb n F (hT.m.alloc o) h hk .none hF k
  simp only [adr_none] at hlk
  go_enter Try.func17, Try.ntmps17
  go_wp2_with fail
  go_quiet (fail)
  go_wp2_with fail
  go_ret2
  exact ⟨rfl, ⟨(hT.r.alloc _).drewN _, (hT.m.alloc _).drewN _⟩, ((Kp.refl _ _).alloc _).drewN _⟩

set_option maxRecDepth 100000 in
set_option maxHeartbeats 1000000 in
theorem index_at (w : World) (tb mb n k : Nat) (root : Option Nat) (H : Hp) (F : Hd → Option Nat) (hT : TW w tb mb n root H F) (h : Hd) (hk : h.ok) (b : Nat) (hF : F h = some b) (X : Nd) (hX : H b = some X) (a r : Int) (ha : sizeH H X.l = some a) (hr : idxH k H b a = some r) :
    Calls Try.prog 17 #[.pointer (some ⟨tb, 0, .none⟩), .agg #[.int .i64 h.s, .int .u64 h.g]] w fun e w' => e = .returned (.tuple #[.int .i64 r, .bool true]) ∧ TW w' tb mb n root H F ∧ Kp (fun _ => False) w w' := by
  have t1 := hT.r.t.c1
  have tl := hT.r.t.lt
  have hlk := fun o k => hlook (w.alloc o) mb n F (hT.m.alloc o) h hk (some b) hF k
  simp only [adr_some] at hlk
  have x2 := (hT.r.h b X hX).c2
  have xl := (hT.r.h b X hX).lt
  go_enter Try.func17, Try.ntmps17
  go_wp2_with fail
  go_quiet (fail)
  generalize nq = nq1
  go_wp2_with fail
  go_quiet (fail)
  have hR1 := ((hT.r.alloc (.cells #[.int .i64 h.s, .int .u64 h.g] 34)).drewN nq1).drewN nq
  have hM1 := ((hT.m.alloc (.cells #[.int .i64 h.s, .int .u64 h.g] 34)).drewN nq1).drewN nq
  have hK1 : Kp (fun _ => False) w (((w.alloc (.cells #[.int .i64 h.s, .int .u64 h.g] 34)).drewN nq1).drewN nq) := (((Kp.refl _ _).alloc _).drewN nq1).drewN nq
  simp only [World.drewN_drewN] at hR1 hM1 hK1 ⊢
  generalize (w.alloc (.cells #[.int .i64 h.s, .int .u64 h.g] 34)).drewN (nq1 + nq) = W at hR1 hM1 hK1 ⊢
  clear hlk t1 tl xl x2
  have x2 := (hR1.h b X hX).c2
  go_wp2_with fail
  refine (size_any _ _ hR1.h _ _ ha).mono ?_
  rintro e w3 ⟨rfl, rfl⟩
  go_wp2_with fail
  go_loopg [6, 7] k (fun m v6 v7 wr => ∃ b1 i1, v6 = .pointer (some ⟨b1, 0, .none⟩) ∧ v7 = .int .i64 i1 ∧ idxH m H b1 i1 = some r ∧ W = wr)
  case atStart => exact ⟨b, a, rfl, rfl, hr, rfl⟩
  case round =>
    obtain ⟨b1, i1, rfl, rfl, hi, rfl⟩ := hrel
    clear x2 hr ha hX
    cases gk with
    | zero => cases hi
    | succ m =>
    simp only [idxH, Option.bind_eq_some_iff] at hi
    obtain ⟨X1, hX1, hi⟩ := hi
    have x4 := (hR1.h b1 X1 hX1).c4
    obtain ⟨up, hup⟩ : ∃ up, up = X1.up := ⟨_, rfl⟩
    rw [← hup] at x4 hi
    clear hup
    cases up with
    | none =>
      cases hi
      simp only [adr_none] at x4
      go_wp2
      go_ret2
      exact ⟨rfl, ⟨hR1, hM1⟩, hK1⟩
    | some u =>
      simp only [Option.bind_eq_some_iff] at hi
      obtain ⟨wh, hwh, U, hU, hi⟩ := hi
      simp only [adr_some] at x4
      have u2 := (hR1.h u U hU).c2
      have hw := which_any W H hR1.h b1 wh hwh
      cases wh with
      | true =>
        simp only [if_true, Option.bind_eq_some_iff] at hi
        obtain ⟨a1, ha1, hi⟩ := hi
        simp only [bi] at hw
        go_wp2_with fail
        refine hw.mono ?_
        rintro e w3 ⟨rfl, rfl⟩
        go_wp2_with fail
        refine (size_any _ _ hR1.h _ _ ha1).mono ?_
        rintro e w3 ⟨rfl, rfl⟩
        go_wp2_with fail
        go_roundg m
        case measure => omega
        case rel => exact ⟨u, _, rfl, rfl, hi, rfl⟩
      | false =>
        simp only [Bool.false_eq_true, if_false] at hi
        simp only [bi] at hw
        go_wp2_with fail
        refine hw.mono ?_
        rintro e w3 ⟨rfl, rfl⟩
        go_wp2_with fail
        go_roundg m
        case measure => omega
        case rel => exact ⟨u, _, rfl, rfl, hi, rfl⟩

/-! ### Deep -/
set_option maxRecDepth 100000 in
set_option maxHeartbeats 1000000 in
theorem deep_node (k : Nat) : ∀ (w : World) (H : Hp) (_hl : Lies w H) (p : Option Nat) (d : Int), deepH k H p = some d →
    Calls Try.prog 50 #[.pointer (adr p)] w fun e w' => e = .returned (.int .i64 d) ∧ ∃ n, w' = w.drewN n := by
  induction k with
  | zero =>
    intro w H hl p d h
    cases p with
    | some x => cases h
    | none =>
      cases h
      simp only [adr_none]
      go_enter Try.func50, Try.ntmps50
      go_wp2_with fail
      go_ret
      exact ⟨rfl, 0, rfl⟩
  | succ k ih =>
    intro w H hl p d h
    cases p with
    | none =>
      cases h
      simp only [adr_none]
      go_enter Try.func50, Try.ntmps50
      go_wp2_with fail
      go_ret
      exact ⟨rfl, 0, rfl⟩
    | some x =>
      simp only [deepH, Option.bind_eq_some_iff, Option.some.injEq] at h
      obtain ⟨X, hX, a, ha, b, hb, rfl⟩ := h
      have x2 := (hl x X hX).c2
      have x3 := (hl x X hX).c3
      have iha := fun n => ih (w.drewN n) H (hl.drewN n) _ _ ha
      have ihb := fun n => ih (w.drewN n) H (hl.drewN n) _ _ hb
      clear ih ha hb hX hl
      simp only [adr_some]
      go_enter Try.func50, Try.ntmps50
      go_wp2_with fail
      go_quiet (first | (go_at_call_of 50 (adr X.l); refine Calls.quiet_of (iha _)) | (go_at_call_of 50 (adr X.r); refine Calls.quiet_of (ihb _)))
      go_wp2_with fail
      all_goals
        go_ret
        exact ⟨by first | (rw [Int.max_eq_left (by omega)]; rfl) | (rw [Int.max_eq_right (by omega)]; rfl), nq, rfl⟩

set_option maxRecDepth 100000 in
set_option maxHeartbeats 1000000 in
theorem deep_any (w : World) (tb mb k : Nat) (root : Option Nat) (H : Hp) (hR : TR w tb mb root H) (d : Int) (h : deepH k H root = some d) :
    Calls Try.prog 20 #[.pointer (some ⟨tb, 0, .none⟩)] w fun e w' => e = .returned (.int .i64 d) ∧ ∃ n, w' = w.drewN n := by
  have t0 := hR.t.c0
  go_enter Try.func20, Try.ntmps20
  go_wp2_with (go_at_call 50; refine (deep_node k _ H hR.h _ _ h).mono ?_; rintro e w1 ⟨rfl, n1, rfl⟩)
  go_ret
  exact ⟨rfl, n1, rfl⟩

/-! ### At -/
set_option maxRecDepth 100000 in
set_option maxHeartbeats 1000000 in
theorem at_neg (w : World) (tb mb n : Nat) (root : Option Nat) (H : Hp) (F : Hd → Option Nat) (hT : TW w tb mb n root H F) (i : Int) (hi : i < 0) :
    Calls Try.prog 16 #[.pointer (some ⟨tb, 0, .none⟩), .int .i64 i] w fun e w' => e = .returned (.tuple #[.agg #[.int .i64 0, .int .u64 0], .bool false]) ∧ TW w' tb mb n root H F ∧ Kp (fun _ => False) w w' := by
  have hi' : decide (i < 0) = true := by simpa using hi
  go_enter Try.func16, Try.ntmps16
  go_wp2_with fail
  refine bodyPost_ret (v := .tuple #[.agg #[.int .i64 0, .int .u64 0], .bool false]) (by simp [results, Try.results16, go_sem]) rfl ?_
  exact ⟨rfl, ⟨hT.r.alloc _, hT.m.alloc _⟩, (Kp.refl _ _).alloc _⟩

set_option maxRecDepth 100000 in
set_option maxHeartbeats 1000000 in
theorem at_big (w : World) (tb mb n : Nat) (root : Option Nat) (H : Hp) (F : Hd → Option Nat) (hT : TW w tb mb n root H F) (i len : Int) (hl : sizeH H root = some len) (hi : 0 ≤ i) (hi' : len ≤ i) :
    Calls Try.prog 16 #[.pointer (some ⟨tb, 0, .none⟩), .int .i64 i] w fun e w' => e = .returned (.tuple #[.agg #[.int .i64 0, .int .u64 0], .bool false]) ∧ TW w' tb mb n root H F ∧ Kp (fun _ => False) w w' := by
  have hd : decide (i < 0) = false := by simp; omega
  go_enter Try.func16, Try.ntmps16
  go_wp2_with fail
  refine (len_any _ tb mb root H (hT.r.alloc _) len hl).mono ?_
  rintro e w1 ⟨rfl, rfl⟩
  go_wp2_with fail
  refine bodyPost_ret (v := .tuple #[.agg #[.int .i64 0, .int .u64 0], .bool false]) (by simp [results, Try.results16, go_sem]) rfl ?_
  exact ⟨rfl, ⟨hT.r.alloc _, hT.m.alloc _⟩, (Kp.refl _ _).alloc _⟩

set_option maxRecDepth 100000 in
set_option maxHeartbeats 1000000 in
theorem at_ok (w : World) (tb mb n k : Nat) (root : Nat) (H : Hp) (F : Hd → Option Nat) (hT : TW w tb mb n (some root) H F) (i len : Int) (hl : sizeH H (some root) = some len) (hi : 0 ≤ i) (hi' : i < len) (s g : Int) (hat : atH k H root i = some (s, g)) :
    Calls Try.prog 16 #[.pointer (some ⟨tb, 0, .none⟩), .int .i64 i] w fun e w' => e = .returned (.tuple #[.agg #[.int .i64 s, .int .u64 g], .bool true]) ∧ TW w' tb mb n (some root) H F ∧ Kp (fun _ => False) w w' := by
  have hd : decide (i < 0) = false := by simp; omega
  have t0 := hT.r.t.c0
  have tl := hT.r.t.lt
  simp only [adr_some] at t0
  go_enter Try.func16, Try.ntmps16
  go_wp2_with fail
  refine (len_any _ tb mb (some root) H (hT.r.alloc _) len hl).mono ?_
  rintro e w1 ⟨rfl, rfl⟩
  have hd2 : decide (len ≤ i) = false := by simp; omega
  have hR1 := hT.r.alloc (.cells #[.int .i64 0, .int .u64 0] 34)
  have hM1 := hT.m.alloc (.cells #[.int .i64 0, .int .u64 0] 34)
  have hK1 : Kp (fun _ => False) w (w.alloc (.cells #[.int .i64 0, .int .u64 0] 34)) := (Kp.refl _ _).alloc _
  have hc : (w.alloc (.cells #[.int .i64 0, .int .u64 0] 34)).heap[w.heap.size]? = some (.cells #[.int .i64 0, .int .u64 0] 34 (0, 0)) := (MapKept.heap_alloc w _).1
  generalize w.alloc (.cells #[.int .i64 0, .int .u64 0] 34) = W at hR1 hM1 hK1 hc ⊢
  have q0 : W.cell? ⟨w.heap.size, 0, .none⟩ = some (.int .i64 0) := by simp [World.cell?, hc]
  have q1 : W.cell? ⟨w.heap.size, 1, .none⟩ = some (.int .u64 0) := by simp [World.cell?, hc]
  have qf : ∀ j, W.frozen? ⟨w.heap.size, j, .none⟩ = false := fun j => by simp [World.frozen?, hc]
  clear t0 tl hd
  have t0 := hR1.t.c0
  simp only [adr_some] at t0
  clear hi hi'
  go_wp2_with fail
  go_loopg [1, 6] k (fun m v1 v6 wr => ∃ b1 i1, v6 = .pointer (some ⟨b1, 0, .none⟩) ∧ v1 = .int .i64 i1 ∧ atH m H b1 i1 = some (s, g) ∧ W = wr)
  case atStart => exact ⟨root, i, rfl, rfl, hat, rfl⟩
  case round =>
    obtain ⟨b1, i1, rfl, rfl, ha, rfl⟩ := hrel
    clear hat t0 hd2 hl
    cases gk with
    | zero => cases ha
    | succ m =>
    simp only [atH, Option.bind_eq_some_iff] at ha
    obtain ⟨X, hX, left, hleft, ha⟩ := ha
    have x0 := (hR1.h b1 X hX).c0
    have x1 := (hR1.h b1 X hX).c1
    have x2 := (hR1.h b1 X hX).c2
    have x3 := (hR1.h b1 X hX).c3
    by_cases e : i1 = left
    · rw [if_pos e] at ha
      cases ha
      have eb : (i1 == left) = true := by simp [e]
      clear e
      go_wp2_with fail
      refine (size_any _ _ hR1.h _ _ hleft).mono ?_
      rintro e w3 ⟨rfl, rfl⟩
      go_wp2_with fail
      refine bodyPost_ret (v := .tuple #[.agg #[.int .i64 X.s, .int .u64 X.g], .bool true]) (by simp [results, Try.results16, go_sem, q0, q1]) rfl ?_
      have hb : H w.heap.size = .none := by
        cases e : H w.heap.size with
        | none => rfl
        | some y =>
          have := hc.symm.trans (hR1.h _ _ e)
          simp [Nd.cells] at this
      have htb : w.heap.size ≠ tb := by
        intro e
        have := hR1.t
        rw [← e] at this
        have := hc.symm.trans this
        simp at this
      have hmb : w.heap.size ≠ mb := hM1.ne hc
      refine ⟨rfl, ⟨⟨(hR1.t.other _ _ _ htb).other _ _ _ htb, (hR1.h.other _ _ _ hb).other _ _ _ hb⟩, (hM1.setCell _ _ _ hmb).setCell _ _ _ hmb⟩, (hK1.setNew _ _ _ (Nat.le_refl _)).setNew _ _ _ (Nat.le_refl _)⟩
    · rw [if_neg e] at ha
      have eb : (i1 == left) = false := by simp [e]
      clear e
      by_cases hlt : i1 < left
      · rw [if_pos hlt] at ha
        simp only [Option.bind_eq_some_iff] at ha
        obtain ⟨c, hc2, ha⟩ := ha
        rw [hc2] at x2 hleft
        clear hc2
        simp only [adr_some] at x2
        have ed : decide (i1 < left) = true := by simpa using hlt
        clear hlt
        go_wp2_with fail
        refine (size_any _ _ hR1.h _ _ hleft).mono ?_
        rintro e w3 ⟨rfl, rfl⟩
        go_wp2_with fail
        go_roundg m
        case measure => omega
        case rel => exact ⟨c, _, rfl, rfl, ha, rfl⟩
      · rw [if_neg hlt] at ha
        simp only [Option.bind_eq_some_iff] at ha
        obtain ⟨c, hc2, ha⟩ := ha
        rw [hc2] at x3
        clear hc2
        simp only [adr_some] at x3
        have ed : decide (i1 < left) = false := by simpa using hlt
        clear hlt
        go_wp2_with fail
        refine (size_any _ _ hR1.h _ _ hleft).mono ?_
        rintro e w3 ⟨rfl, rfl⟩
        go_wp2_with fail
        go_roundg m
        case measure => omega
        case rel => exact ⟨c, _, rfl, rfl, ha, rfl⟩

end Go.Proofs.Ytimhbnlgambcaaa
