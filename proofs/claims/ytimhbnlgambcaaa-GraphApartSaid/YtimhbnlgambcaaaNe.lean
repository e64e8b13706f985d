/- The walks of each, All of a list: the handles in order, collected. -/
import Derived.Test.YtimhbnlgambcaaaNd
import Derived.Test.YtimhbnlgambcaaaTJ
namespace Go.Proofs.Ytimhbnlgambcaaa
open Go.RowKit Go.Shelf

attribute [local go_sem] Oper.semAt_some

/-- The heap holds the links of the handles from p on, in blocks below n₀: what each reads of them. -/
def IsRun (n₀ : Nat) (W : World) : Option Addr → List Hd → Prop
  | p, [] => p = .none
  | p, h :: r => ∃ (b : Nat) (q : Option Addr), p = some ⟨b, 0, .none⟩ ∧ b < n₀ ∧ W.cell? ⟨b, 0, .none⟩ = some (.int .i64 h.s) ∧ W.cell? ⟨b, 1, .none⟩ = some (.int .u64 h.g) ∧ W.cell? ⟨b, 2, .none⟩ = some (.pointer q) ∧ IsRun n₀ W q r
theorem IsRun.below {n₀ : Nat} {A B : World} (h : Below n₀ A B) : ∀ {p : Option Addr} {xs : List Hd}, IsRun n₀ A p xs → IsRun n₀ B p xs
  | _, [], hl => hl
  | _, _ :: _, ⟨b, q, hp, hb, h0, h1, h2, hr⟩ => ⟨b, q, hp, hb, (h.cell (p := ⟨b, 0, .none⟩) hb).trans h0, (h.cell (p := ⟨b, 1, .none⟩) hb).trans h1, (h.cell (p := ⟨b, 2, .none⟩) hb).trans h2, IsRun.below h hr⟩
theorem isRun_of {n₀ : Nat} {W : World} {H : LHp} (hl : LLies W H) (hn : W.heap.size ≤ n₀) : ∀ {l : LL} {p : Option Nat}, Chain H p l .none → IsRun n₀ W (adr (hdL l .none)) (hsL l)
  | [], _, _ => rfl
  | x :: l, _, ⟨h1, h2⟩ => ⟨x.2, adr (hdL l .none), rfl, Nat.lt_of_lt_of_le (hl _ _ h1).lt hn, (hl _ _ h1).c0, (hl _ _ h1).c1, (hl _ _ h1).c2, isRun_of hl hn h2⟩
theorem IsRun.len_unique {n₀ : Nat} {W : World} : ∀ {p : Option Addr} {xs ys : List Hd}, IsRun n₀ W p xs → IsRun n₀ W p ys → xs.length = ys.length
  | _, [], [], _, _ => rfl
  | _, [], _ :: _, h, ⟨_, _, hp, _⟩ => by rw [show _ = Option.none from h] at hp; cases hp
  | _, _ :: _, [], ⟨_, _, hp, _⟩, h => by rw [show _ = Option.none from h] at hp; cases hp
  | _, x :: xs, y :: ys, ⟨b, q, hp, _, _, _, hq, hr⟩, ⟨b', q', hp', _, _, _, hq', hr'⟩ => by
    rw [hp] at hp'; cases hp'
    rw [hq] at hq'; cases hq'
    simp [IsRun.len_unique hr hr']
open Classical in
/-- How many links are still to come. -/
noncomputable def leftRun (n₀ : Nat) (W : World) (v : Value) : Nat :=
  if h : ∃ r : Option Addr × List Hd, v = .pointer r.1 ∧ IsRun n₀ W r.1 r.2 then (Classical.choose h).2.length else 0
theorem leftRun_eq {n₀ : Nat} {W : World} {q : Option Addr} {xs : List Hd} (h : IsRun n₀ W q xs) : leftRun n₀ W (.pointer q) = xs.length := by
  have hex : ∃ r : Option Addr × List Hd, Value.pointer q = .pointer r.1 ∧ IsRun n₀ W r.1 r.2 := ⟨(q, xs), rfl, h⟩
  unfold leftRun
  rw [dif_pos hex]
  obtain ⟨e, hl⟩ := Classical.choose_spec hex
  have e' : q = (Classical.choose hex).1 := by simpa using e
  rw [← e'] at hl
  exact IsRun.len_unique hl h

set_option maxRecDepth 100000 in
set_option maxHeartbeats 1000000 in
theorem end_in (F : Fence) (n : Nat) (h4 : F.fn 83) (hro : F.round = .none) (lb : Nat) (p0 : Option Addr) (w : World) (c1 : w.cell? ⟨lb, 1, .none⟩ = some (.pointer p0)) :
    CallsIn F n Try.prog 83 #[.pointer (some ⟨lb, 0, .none⟩), .bool true] w fun e w' => e = .returned (.pointer p0) ∧ w = w' := by
  refine callsIn_of_wp Try.func83 rfl h4 ?_ hro
  simp only [Try.ntmps83, List.size_toArray, List.length_cons, List.length_nil, Nat.reduceAdd, Nat.reduceSub, Array.replicate_succ, Array.replicate_zero, List.push_toArray, List.append_toArray, List.nil_append, List.cons_append]
  gi_wp2
  go_ret
  exact ⟨rfl, rfl⟩

set_option maxRecDepth 100000 in
set_option maxHeartbeats 1000000 in
theorem eachl1_in (F : Fence) (n : Nat) (h6 : F.fn 126) (h83 : F.fn 83) (hro : F.round = .none) (hn : 1 ≤ n) (l Bn n₀ lb : Nat) (p0 : Option Addr) (xs : List Hd) (J Jx : List Hd → World → Prop)
    (hY : ∀ pre x W, J pre W → pre.length < xs.length → YieldAt F (n - 1) Try.prog l #[.agg #[.int .i64 x.s, .int .u64 x.g]] W fun e W' =>
      (e = .returned (.bool true) ∧ J (pre ++ [x]) W' ∧ Below n₀ W W') ∨ (e = .returned (.bool false) ∧ Jx (pre ++ [x]) W'))
    (W : World) (hBn : W.cell? ⟨Bn, 0, .none⟩ = some (.pointer (some ⟨lb, 0, .none⟩))) (hc1 : W.cell? ⟨lb, 1, .none⟩ = some (.pointer p0)) (hL : IsRun n₀ W p0 xs) (h0 : J [] W) :
    CallsIn F n Try.prog 126 #[.func (.yield l) #[] #[], .pointer (some ⟨Bn, 0, .none⟩)] W fun e W' => (∃ v, e = .returned v) ∧
      ((∃ ys, ys = xs ∧ J ys W') ∨ (∃ pre, pre <+: xs ∧ Jx pre W')) := by
  refine callsIn_of_wp Try.func126 rfl h6 ?_ hro
  simp only [Try.ntmps126, List.size_toArray, List.length_cons, List.length_nil, Nat.reduceAdd, Nat.reduceSub, Array.replicate_succ, Array.replicate_zero, List.push_toArray, List.append_toArray, List.nil_append, List.cons_append]
  gi_wp2_with (gi_at_call 83; refine (end_in F (n - 1) h83 hro lb p0 W hc1).mono ?_; rintro e W1 ⟨rfl, rfl⟩)
  gi_loopw [3] (fun p wr => ∃ (pre rest : List Hd) (q : Option Addr), p = .pointer q ∧ xs = pre ++ rest ∧ IsRun n₀ wr q rest ∧ J pre wr)
    (fun p wr => leftRun n₀ wr p)
  case atStart => exact ⟨[], xs, p0, rfl, rfl, hL, h0⟩
  case round =>
    obtain ⟨pre, rest, q, rfl, hx, hl, hJs⟩ := hrel
    cases rest with
    | nil =>
      obtain rfl : q = .none := hl
      gi_wp2
      go_end0
      exact ⟨⟨_, rfl⟩, .inl ⟨pre, by simp [hx], hJs⟩⟩
    | cons x rest =>
      have hl' := hl
      obtain ⟨b, q', rfl, hb, hv, hg, hq, hr⟩ := hl
      obtain ⟨fn, tmps, assign, body, hy, hR⟩ := hY pre x wr hJs (by rw [hx]; simp)
      gi_wp2
      refine hR.mono ?_
      rintro e W3 (⟨rfl, hJ3, hk3⟩ | ⟨rfl, hJx3⟩)
      · have hq3 : W3.cell? ⟨b, 2, .none⟩ = some (.pointer q') := (hk3.cell (p := ⟨b, 2, .none⟩) hb).trans hq
        gi_wp2
        go_roundw
        case rel => exact ⟨pre ++ [x], rest, q', rfl, by simp [hx], hr.below hk3, hJ3⟩
        case measure => rw [leftRun_eq (hr.below hk3), leftRun_eq hl']; simp
      · gi_wp2
        refine bodyPost_ret (results_none rfl _ _ _) rfl ?_
        exact ⟨⟨_, rfl⟩, .inr ⟨pre ++ [x], ⟨rest, by simp [hx]⟩, hJx3⟩⟩

set_option maxHeartbeats 1000000 in
theorem eachl_in (F : Fence) (n : Nat) (h5 : F.fn 125) (hro : F.round = .none) (p0 : Option Addr) (w : World) :
    CallsIn F n Try.prog 125 #[.pointer p0] w fun e w' => e = .returned (.func (.func 126) #[] #[.pointer (some ⟨w.heap.size, 0, .none⟩)]) ∧ w' = w.alloc (.cells #[.pointer p0] 108) := by
  refine callsIn_of_wp Try.func125 rfl h5 ?_ hro
  simp only [Try.ntmps125, List.size_toArray, List.length_cons, List.length_nil, Nat.reduceAdd, Nat.reduceSub, Array.replicate_succ, Array.replicate_zero, List.push_toArray, List.append_toArray, List.nil_append, List.cons_append]
  gi_wp2
  go_ret
  exact ⟨rfl, rfl⟩

theorem eachl_stops (F : Fence) (n : Nat) (h6 : F.fn 126) (h83 : F.fn 83) (hro : F.round = .none) (hn : 1 ≤ n) (Bn n₀ lb : Nat) (p0 : Option Addr) (xs : List Hd) (w : World) (hBn : Bn < w.heap.size) (hn₀ : n₀ ≤ w.heap.size) (hlb : lb < w.heap.size)
    (hc : w.cell? ⟨Bn, 0, .none⟩ = some (.pointer (some ⟨lb, 0, .none⟩))) (hc1 : w.cell? ⟨lb, 1, .none⟩ = some (.pointer p0)) (hL : IsRun n₀ w p0 xs) :
    SeqStopsK F n Try.prog 126 #[.pointer (some ⟨Bn, 0, .none⟩)] (fun x : Hd => #[Value.agg #[.int .i64 x.s, .int .u64 x.g]]) (Below n₀) (fun ys => ys = xs) (fun pre => pre <+: xs) xs.length w := fun l J Jx W hW _ _ hY h0 =>
  eachl1_in F n h6 h83 hro hn l Bn n₀ lb p0 xs J Jx hY W ((hW.cell (p := ⟨Bn, 0, .none⟩) hBn).trans hc) ((hW.cell (p := ⟨lb, 1, .none⟩) hlb).trans hc1) (hL.below (hW.mono hn₀)) h0

set_option maxRecDepth 100000 in
set_option maxHeartbeats 2000000 in
theorem alll_in (F : Fence) (hd : F.depth = .none) (n : Nat) (h3 : F.fn 123) (h4 : F.fn 125) (h5 : F.fn 126) (h6 : F.fn 83) (hro : F.round = .none) (hn : 3 ≤ n) (lb : Nat) (p0 : Option Addr) (xs : List Hd) (w : World) (tl : lb < w.heap.size) (hc1 : w.cell? ⟨lb, 1, .none⟩ = some (.pointer p0)) (hL : IsRun w.heap.size w p0 xs) (hlen : xs.length ≤ 1000000) :
    CallsIn F n Try.prog 123 #[.pointer (some ⟨lb, 0, .none⟩)] w fun e W' => ∃ v, e = .returned v ∧ W'.ownsRow w.heap.size 34 2 v xs.length (flatH xs) ∧ (v = .slice .none 0 0 ↔ xs = []) ∧ Below w.heap.size w W' := by
  have h1 : 1 ≤ n := by omega
  obtain ⟨i0, hi, hz0, hz1, hz2⟩ := info_parts info34
  refine callsIn_of_wp_marks Try.func123 rfl h3 ?_ hro
  simp only [Try.ntmps123, List.size_toArray, List.length_cons, List.length_nil, Nat.reduceAdd, Nat.reduceSub, Array.replicate_succ, Array.replicate_zero, List.push_toArray, List.append_toArray, List.nil_append, List.cons_append]
  gi_wp2_with (gi_at_call 125; refine (eachl_in F (n - 1) h4 hro _ _).mono ?_; rintro e w' ⟨rfl, rfl⟩)
  have bO := Boxed.new w 27 (.slice .none 0 0)
  have bN := Boxed.new (w.alloc (.cells #[.slice .none 0 0] 27)) 108 (.pointer (some ⟨lb, 0, .none⟩))
  rw [World.size_alloc] at bN
  have hB0 : Below w.heap.size w ((w.alloc (.cells #[.slice .none 0 0] 27)).alloc (.cells #[.pointer (some ⟨lb, 0, .none⟩)] 108)) := ((Below.refl _ w).alloc (Nat.le_refl _) _).alloc (by simp) _
  refine wpIn_rangeFunc_ownH hro h1 (gf := 126) (lb := #[.pointer (some ⟨w.heap.size + 1, 0, .none⟩)]) rfl h5 (enters_of Try.func126 (by kernel_rfl) rfl)
    (eachl_stops F (n - 1) h5 h6 hro (by omega) (w.heap.size + 1) w.heap.size lb p0 xs _ (by simp) (by simp; omega) (by simp; omega) bN.cell ((hB0.cell (p := ⟨lb, 1, .none⟩) tl).trans hc1) (hL.below hB0)) belowK_t (belowK_b (by simp; omega)) (Below.refl _ _) (fun _ => rfl)
    (fun pre W => (∃ v, Boxed W w.heap.size 27 v ∧ W.ownsRow w.heap.size 34 2 v pre.length (flatH pre) ∧ (v = .slice .none 0 0 ↔ pre = [])) ∧ Below w.heap.size w W)
    (fun _ _ _ => False)
    (OwnFrom.and (Own.from (holdsRow_own w.heap.size w.heap.size 27 34 2 (fun pre : List Hd => pre.length) flatH (fun pre v => v = .slice .none 0 0 ↔ pre = [])) _) (ownFrom_below (Nat.le_refl _) (by simp; omega)))
    (fun _ _ _ _ _ hs _ _ => hs)
    ⟨⟨_, bO.alloc _, World.ownsRow_nil _ _ _ _, by simp⟩, hB0⟩
    (fun x a' W => ∃ Bx, w.heap.size < Bx ∧ HBox W Bx x ∧ a' = { tmps := #[.pointer (some ⟨lb, 0, .none⟩), undef, .pointer (some ⟨w.heap.size, 0, .none⟩), .pointer (some ⟨Bx, 0, .none⟩), .pointer (some ⟨lb, 0, .none⟩), .func (.func 126) #[] #[.pointer (some ⟨w.heap.size + 1, 0, .none⟩)], .agg #[.int .i64 x.s, .int .u64 x.g], undef, undef, undef, undef, undef], defers := [] })
    (fun x a' _ X Y row hs hg hr => by obtain ⟨Bx, h1, h2, h3⟩ := hs; exact ⟨Bx, h1, HBox.own _ Bx x () X Y row h2 hg hr, h3⟩)
    ?assign ?body ?done ?stop
  case assign =>
    rintro l pre x W K ⟨⟨v, hv, hrow, hnil⟩, hB⟩ hK
    gi_wp2
    exact hK _ _ ((KeepsOthers.alloc _ _).from _) ((Below.refl _ W).alloc hB.size _) ⟨⟨v, hv.alloc _, hrow.alloc _, hnil⟩, hB.alloc hB.size _⟩ ⟨W.heap.size, hv.lt, World.alloc_heap_new _ _, rfl⟩
  case body =>
    rintro l pre x a' W hl ⟨r, hr⟩ ⟨⟨v, hv, hrow, hnil⟩, hB⟩ ⟨Bx, hBx, hX, rfl⟩ hlt
    have hc := hv.cell
    have x0 := hX.c0
    have x1 := hX.c1
    gi_wp2_with (gi_at_builtin; refine wpListIn_append_own _ rfl _ _ 27 rfl w.heap.size 34 i0 (.agg #[.int .i64 0, .int .u64 0]) 2 16 Try.underlying27 hi hz0 hz1 hz2 rfl (by decide) _ _ _ rfl (hrow.alloc _) ⟨W.heap.size, 0, .none⟩ 1 1 [.int .i64 x.s, .int .u64 x.g] rfl rfl (cells_two_new _ _ _ _) (by simp [Value.oneCell']) (by unfold maxLen; omega) (by omega) (by have := hB.size; simp; omega) ?_; intro v' w1 hown' hgrow _; obtain ⟨g', cap', rfl⟩ := ownsRow_succ hown'; obtain ⟨hv1, hv2, hr2, hk2, hb2⟩ := hv.appended (by decide) hrow hB.size (Nat.le_refl _) hown' hgrow; have hc1 := hv1.cell; have hf1 := hv1.frozen)
    exact ⟨hk2.from _, hb2, ⟨_, hv2, by rw [flatH_snoc]; simpa using hr2, by simp⟩, hB.trans hb2⟩
  case done =>
    rintro D ys W hD rfl ⟨⟨v, hv, hrow, hnil⟩, hB⟩ hK
    obtain ⟨A, c, rfl, _, _⟩ := Reads.of_slice hrow
    have hc := hv.cell
    have hf := hv.frozen
    gi_wp2
    have hne : w.heap.size ≠ D := by simp at hD; omega
    have hK2 : (W.setCell ⟨w.heap.size, 0, .none⟩ (.slice A ys.length c)).heap[D]? = some (.deferred (some [])) := (Below.heap_setCell _ _ _ _ hne.symm).trans hK
    refine ⟨by simp, .inl ⟨_, _, rfl, run_takeDeferred hK2, ?_⟩⟩
    have hb1 : (W.setCell ⟨w.heap.size, 0, .none⟩ (.slice A ys.length c)).heap[w.heap.size]? = some (.cells #[.slice A ys.length c] 27 (0, 0)) := heap_setCell_self hv 0 _
    have hb2 : ((W.setCell ⟨w.heap.size, 0, .none⟩ (.slice A ys.length c)).putObj D (.deferred .none)).heap[w.heap.size]? = some (.cells #[.slice A ys.length c] 27 (0, 0)) := by
      rw [← hb1]
      simp only [World.putObj]
      rw [Array.getElem?_setIfInBounds_ne hne.symm]
    have hc2 : ((W.setCell ⟨w.heap.size, 0, .none⟩ (.slice A ys.length c)).putObj D (.deferred .none)).cell? ⟨w.heap.size, 0, .none⟩ = some (.slice A ys.length c) := by simp [World.cell?, hb2]
    have hob : (Value.slice A ys.length c).ownBlock ≠ some w.heap.size := by
      intro e
      rcases hrow.2 with ⟨e1, _⟩ | ⟨g, cap, cur, e1, _, e2, _⟩
      · rw [e1] at e; simp [Value.ownBlock] at e
      · rw [e1] at e
        simp [Value.ownBlock] at e
        subst e
        have := (show W.heap[w.heap.size]? = _ from hv).symm.trans e2
        cases this
    refine ⟨.slice A ys.length c, by simp [results, Try.results123, go_sem, hc2], _, rfl, ownsRow_putObj (ownsRow_setCell_other hrow (a := ⟨w.heap.size, 0, .none⟩) hob _) _ hK2 rfl, hnil, (hB.setCell (Nat.le_refl _) _).trans (belowK_b (w := w) (Nat.le_refl _) _ D _ _ (by simp at hD; omega) hK2 rfl rfl)⟩
  case stop =>
    rintro D c pre W _ _ h _
    exact h.elim

/-- All of a list: its handles in order, in a row of new memory. -/
theorem list_all {w : World} {lb : Nat} {S : Nat → Prop} {L : List Hd} (h : ListAt w lb S L) (hlen : L.length ≤ 1000000) :
    Calls Try.prog 123 #[.pointer (some ⟨lb, 0, .none⟩)] w fun e W' => ∃ v, e = .returned v ∧ W'.ownsRow w.heap.size 34 2 v L.length (flatH L) ∧ (v = .slice .none 0 0 ↔ L = []) ∧ Below w.heap.size w W' := by
  obtain ⟨mb, H, F, l, h1, rfl, h3⟩ := h
  refine (callsIn_wide (n := 3)).1 ?_
  exact alll_in _ rfl 3 trivial trivial trivial trivial rfl (Nat.le_refl _) lb _ _ w h1.t.lt h1.t.c1 (isRun_of h1.h (Nat.le_refl _) h1.c) hlen
end Go.Proofs.Ytimhbnlgambcaaa
