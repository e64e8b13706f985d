/- The walks of Pop and Peek of a graph. -/
import Derived.Test.YtimhbnlgambcaaaGl
namespace Go.Proofs.Ytimhbnlgambcaaa
open Go.RowKit Go.BigFrame

section
variable {w w' : World} {gb rm im bm : Nat} {B : Plc → Option (Bool × Nat)} {Sp : Plc → Nat → Prop} {g : GS} {S : Nat → Prop}

/-- What a call that takes away leaves. -/
def DelPost (w : World) (gb : Nat) (S : Nat → Prop) (g' : GS) (w' : World) : Prop := ∃ S', GraphAt w' gb S' g' ∧ Kp S w w' ∧ ∀ k, S' k → S k
theorem DelPost.put {w w' : World} {gb : Nat} {S : Nat → Prop} {g' : GS} (h : DelPost w gb S g' w') : PutPost w gb S g' w' := by
  obtain ⟨S', h1, h2, h3⟩ := h
  exact ⟨S', h1, h2, fun k hk => .inl (h3 k hk)⟩

/-- What goes leaves of the whole, behind a removal out of a row. -/
theorem gw_goes (h : GW w gb rm im bm B Sp g) (hS : ∀ k, S k ↔ (k = gb ∨ MS rm im bm k ∨ ∃ p, Sp p k)) {p : Plc} {t : Bool} {b : Nat} (hB : B p = some (t, b)) {pre post : List Hd} {x : Hd} {n : Int} (hR : g.R p = some (t, pre ++ x :: post)) (hBy : g.By (p, x) = some n)
    {w1 w2 : World} {S1 : Nat → Prop} (hr : RowAt w1 t b S1 (pre ++ post)) (hS1 : ∀ k, S1 k → Sp p k) (hk1 : Kp (Sp p) w w1) (hg : GoesPost w1 gb rm im bm (if pre ++ post = [] then edel B p else B) (edel g.In (x, n)) (edel g.By (p, x)) w2) :
    DelPost w gb S (gdel g p t (pre ++ post) x n) w2 := by
  classical
  obtain ⟨hm, hk2⟩ := hg
  have hk : Kp (fun k => Sp p k ∨ MS rm im bm k) w w2 := (hk1.mono (fun _ _ h => .inl h)).trans (hk2.mono (fun _ _ h => .inr h))
  have hnd := h.ok.nd p t _ hR
  have hnd' : (pre ++ post).Nodup := by
    rw [List.nodup_append] at hnd ⊢
    exact ⟨hnd.1, (List.nodup_cons.1 hnd.2.1).2, fun a ha b hb => hnd.2.2 a ha b (by simp [hb])⟩
  have hmem : ∀ y, y ∈ pre ++ post ↔ y ≠ x ∧ y ∈ pre ++ x :: post := by
    intro y
    rw [List.nodup_append] at hnd
    obtain ⟨n1, n2, n3⟩ := hnd
    have n4 := (List.nodup_cons.1 n2).1
    simp only [List.mem_append, List.mem_cons]
    constructor
    · rintro (hy | hy)
      · exact ⟨fun e => n3 y hy x (by simp) e, .inl hy⟩
      · exact ⟨fun e => n4 (e ▸ hy), .inr (.inr hy)⟩
    · rintro ⟨h1, h2 | h2 | h2⟩
      · exact .inl h2
      · exact absurd h2 h1
      · exact .inr h2
  have hr2 := hr.kp hk2 (fun k hk => (h.dis p k (hS1 k hk)).2)
  have hgw := gw_del h hB hm hr2 hS1 hk (gok_del h.ok hR hmem hnd' hBy)
  refine ⟨_, ⟨rm, im, bm, _, _, hgw, fun k => Iff.rfl⟩, hk.mono (fun k _ hk => (hS k).2 (hk.elim (fun h => .inr (.inr ⟨p, h⟩)) (fun h => .inr (.inl h)))), ?_⟩
  rintro k (rfl | hk | ⟨q, ⟨rfl, _, hk⟩ | ⟨_, hk⟩⟩)
  · exact (hS k).2 (.inl rfl)
  · exact (hS k).2 (.inr (.inl hk))
  · exact (hS k).2 (.inr (.inr ⟨_, hS1 k hk⟩))
  · exact (hS k).2 (.inr (.inr ⟨q, hk⟩))

set_option maxRecDepth 100000 in
set_option maxHeartbeats 2000000 in
theorem gpop_none (h : GW w gb rm im bm B Sp g) (p : Plc) (hp : p.ok) (front : Bool) (hrow : rowp B p false = .none) :
    Calls Try.prog 29 #[.pointer (some ⟨gb, 0, .none⟩), .agg #[.int .i64 p.m, .int .i64 p.s, .int .i64 p.a], .bool front] w fun e w' => e = .returned (.tuple #[.agg #[.int .i64 0, .int .u64 0], .bool false]) ∧ Kp (fun _ => False) w w' := by
  have hK0 : Kp (fun _ => False) w ((w.alloc (.cells #[.int .i64 p.m, .int .i64 p.s, .int .i64 p.a] 55)).alloc (.cells #[.int .i64 0, .int .u64 0] 34)) := ((Kp.refl _ _).alloc _).alloc _
  obtain ⟨hp1, hx1⟩ := two_new w (.cells #[.int .i64 p.m, .int .i64 p.s, .int .i64 p.a] 55) (.cells #[.int .i64 0, .int .u64 0] 34)
  have hP : PBox ((w.alloc (.cells #[.int .i64 p.m, .int .i64 p.s, .int .i64 p.a] 55)).alloc (.cells #[.int .i64 0, .int .u64 0] 34)) w.heap.size p := hp1
  have hZ : HBox ((w.alloc (.cells #[.int .i64 p.m, .int .i64 p.s, .int .i64 p.a] 55)).alloc (.cells #[.int .i64 0, .int .u64 0] 34)) (w.heap.size + 1) ⟨0, 0⟩ := hx1
  have hG := h.m.kp0 hK0
  have hrh := Lib.hid hrow
  clear hp1 hx1 hrow
  go_enter Try.func29, Try.ntmps29
  go_wp2_with fail
  generalize (w.alloc (.cells #[.int .i64 p.m, .int .i64 p.s, .int .i64 p.a] 55)).alloc (.cells #[.int .i64 0, .int .u64 0] 34) = W at hK0 hP hZ hG ⊢
  refine (graph_made hG).mono ?_
  rintro e w1 ⟨rfl, rfl⟩
  have p0 := hP.c0
  have p1 := hP.c1
  have p2 := hP.c2
  go_wp2_with fail
  refine (graph_listed hG p hp).mono ?_
  rintro e w2 ⟨rfl, hk2⟩
  rw [hrh.out, adr_none]
  have hZ2 := hZ.kp0 hk2
  have hK2 := hK0.trans hk2
  clear p0 p1 p2 hG hP hZ hk2 hK0
  go_wp2_with fail
  refine (pop_nil w2 front).mono ?_
  rintro e w3 ⟨rfl, hk3⟩
  have hZ3 := hZ2.kp0 hk3
  have hK3 := hK2.trans hk3
  have q0 := hZ3.c0
  have q1 := hZ3.c1
  have qf := hZ3.fz
  have ql := hZ3.lt
  go_wp2_with fail
  exact bodyPost_ret (v := .tuple #[.agg #[.int .i64 0, .int .u64 0], .bool false]) (by simp [results, Try.results29, go_sem, q0, q1, ql]) rfl ⟨rfl, ((hK3.setNew _ _ _ (by omega)).setNew _ _ _ (by omega)).alloc _⟩

set_option maxRecDepth 100000 in
set_option maxHeartbeats 2000000 in
theorem gpop_some (h : GW w gb rm im bm B Sp g) (hS : ∀ k, S k ↔ (k = gb ∨ MS rm im bm k ∨ ∃ p, Sp p k)) (p : Plc) (hp : p.ok) (front : Bool) {b : Nat} {pre post : List Hd} {x : Hd} {n : Int} (hB : B p = some (false, b)) (hR : g.R p = some (false, pre ++ x :: post)) (hx : endOf (pre ++ x :: post) front = some x)
    (hl : ListAt w b (Sp p) (pre ++ x :: post)) (hBy : g.By (p, x) = some n) :
    Calls Try.prog 29 #[.pointer (some ⟨gb, 0, .none⟩), .agg #[.int .i64 p.m, .int .i64 p.s, .int .i64 p.a], .bool front] w fun e w' => e = .returned (.tuple #[.agg #[.int .i64 x.s, .int .u64 x.g], .bool true]) ∧ DelPost w gb S (gdel g p false (pre ++ post) x n) w' := by
  obtain ⟨hxok, hnok⟩ := h.ok.nok p x n hBy
  have hK0 : Kp (fun _ => False) w ((w.alloc (.cells #[.int .i64 p.m, .int .i64 p.s, .int .i64 p.a] 55)).alloc (.cells #[.int .i64 0, .int .u64 0] 34)) := ((Kp.refl _ _).alloc _).alloc _
  obtain ⟨hp1, hx1⟩ := two_new w (.cells #[.int .i64 p.m, .int .i64 p.s, .int .i64 p.a] 55) (.cells #[.int .i64 0, .int .u64 0] 34)
  have hP : PBox ((w.alloc (.cells #[.int .i64 p.m, .int .i64 p.s, .int .i64 p.a] 55)).alloc (.cells #[.int .i64 0, .int .u64 0] 34)) w.heap.size p := hp1
  have hZ : HBox ((w.alloc (.cells #[.int .i64 p.m, .int .i64 p.s, .int .i64 p.a] 55)).alloc (.cells #[.int .i64 0, .int .u64 0] 34)) (w.heap.size + 1) ⟨0, 0⟩ := hx1
  have hG := h.m.kp0 hK0
  have hrow : rowp B p false = some b := by simp [rowp, hB]
  have hrh := Lib.hid hrow
  have hL0 := hl.kp0 hK0
  clear hp1 hx1 hrow
  have hBh := Lib.hid hB
  have hRh := Lib.hid hR
  have hxh := Lib.hid hx
  have hByh := Lib.hid hBy
  clear hB hR hx hBy
  have hn0 : ∀ k, w.heap.size ≤ k → ¬ Sp p k := fun k hk hs => by have := h.splt hs; omega
  have hm0 : ∀ k, w.heap.size ≤ k → ¬ MS rm im bm k := fun k hk hs => by have := h.m.lts (.inr hs); omega
  go_enter Try.func29, Try.ntmps29
  go_wp2_with fail
  generalize (w.alloc (.cells #[.int .i64 p.m, .int .i64 p.s, .int .i64 p.a] 55)).alloc (.cells #[.int .i64 0, .int .u64 0] 34) = W at hK0 hP hZ hG hL0 ⊢
  refine (graph_made hG).mono ?_
  rintro e w1 ⟨rfl, rfl⟩
  have p0 := hP.c0
  have p1 := hP.c1
  have p2 := hP.c2
  go_wp2_with fail
  refine (graph_listed hG p hp).mono ?_
  rintro e w2 ⟨rfl, hk2⟩
  rw [hrh.out, adr_some]
  have hG2 := hG.kp0 hk2
  have hP2 := hP.kp0 hk2
  have hZ2 := hZ.kp0 hk2
  have hL2 := hL0.kp0 hk2
  have hK2 := hK0.trans hk2
  clear p0 p1 p2 hG hP hZ hk2 hK0 hL0
  go_wp2_with fail
  refine (pop_some hL2 front hxh.out).mono ?_
  rintro e w3 ⟨rfl, S1, hL3, hk3, hS1⟩
  have hP3 := hP2.kp hk3 (hn0 _ (Nat.le_refl _))
  have hZ3 := hZ2.kp hk3 (hn0 _ (Nat.le_succ _))
  have hG3 := hG2.kp hk3 (fun k hk hs => (h.dis p k hs).2 (by
      rcases hk with rfl | hk
      · exact absurd rfl (h.dis p k hs).1
      · exact hk))
  have hK3 : Kp (Sp p) w w3 := (hK2.mono (fun _ _ h => h.elim)).trans hk3
  have hsz : w.heap.size + 2 ≤ w3.heap.size := by have := hZ3.lt; omega
  clear hG2 hP2 hZ2 hL2 hk3 hK2
  have p0 := hP3.c0
  have p1 := hP3.c1
  have p2 := hP3.c2
  have pl := hP3.lt
  go_wp2_with fail
  have hKx : Kp (fun _ => False) w3 (w3.alloc (.cells #[.int .i64 x.s, .int .u64 x.g] 34)) := (Kp.refl _ _).alloc _
  have hX4 : HBox (w3.alloc (.cells #[.int .i64 x.s, .int .u64 x.g] 34)) w3.heap.size x := heap_alloc_new _ _
  have hZ4 := hZ3.kp0 hKx
  have hG4 := hG3.kp0 hKx
  have hL4 := hL3.kp0 hKx
  have hK4 := hK3.trans (hKx.mono (S' := Sp p) (fun _ _ h => h.elim))
  refine (graph_goes hG4 p hp x hxok n hnok hByh.out hBh.out (show RowAt _ false b S1 (pre ++ post) from hL4) (fun k hk => (h.dis p k (hS1 k hk)).2)).mono ?_
  rintro e w5 ⟨rfl, hgp⟩
  have hk5 := hgp.2
  have hX5 := hX4.kp hk5 (hm0 _ (by omega))
  have hZ5 := hZ4.kp hk5 (hm0 _ (Nat.le_succ _))
  have x0 := hX5.c0
  have x1 := hX5.c1
  have q0 := hZ5.c0
  have q1 := hZ5.c1
  have qf := hZ5.fz
  have ql := hZ5.lt
  have hne : w.heap.size + 1 ≠ w3.heap.size := by omega
  clear p0 p1 p2 pl
  go_wp2_with fail
  obtain ⟨S', hg', hk', hS'⟩ := gw_goes h hS hBh.out hRh.out hByh.out (show RowAt _ false b S1 (pre ++ post) from hL4) hS1 hK4 hgp
  have hkz : Kp (fun k => k = w.heap.size + 1) w5 ((w5.setCell ⟨w.heap.size + 1, 0, .none⟩ (.int .i64 x.s)).setCell ⟨w.heap.size + 1, 1, .none⟩ (.int .u64 x.g)) := ((Kp.refl (fun k => k = w.heap.size + 1) w5).setCell _ _ _ rfl).setCell _ _ _ rfl
  refine bodyPost_ret (v := .tuple #[.agg #[.int .i64 x.s, .int .u64 x.g], .bool true]) (by simp [results, Try.results29, go_sem, q0, q1]) rfl ⟨rfl, S', hg'.kp hkz (fun k hk e => ?_), (hk'.setNew _ _ _ (by omega)).setNew _ _ _ (by omega), hS'⟩
  rcases (hS k).1 (hS' k hk) with h1 | h1 | ⟨q, h1⟩
  · have := h.m.lt; omega
  · exact hm0 k (by omega) h1
  · have := h.splt h1; omega

/-- A list without what is at an end. -/
def popList (L : List Hd) (front : Bool) : List Hd := if front then L.tail else L.dropLast
theorem popList_parts (L : List Hd) (front : Bool) (hL : L ≠ []) : ∃ pre x post, L = pre ++ x :: post ∧ endOf L front = some x ∧ popList L front = pre ++ post := by
  cases front with
  | true =>
    cases L with
    | nil => exact absurd rfl hL
    | cons a r => exact ⟨[], a, r, rfl, rfl, rfl⟩
  | false =>
    rcases List.eq_nil_or_concat L with h | ⟨r, a, rfl⟩
    · exact absurd h hL
    · exact ⟨r, a, [], by simp, by simp [endOf], by simp [popList]⟩

/-- What Pop, Peek answer. -/
def gEnd (g : GS) (p : Plc) (front : Bool) : Option Hd := if isListG g p then endOf (rowL g p) front else .none
def gEndV (g : GS) (p : Plc) (front : Bool) : Value := match gEnd g p front with
  | some x => .tuple #[.agg #[.int .i64 x.s, .int .u64 x.g], .bool true]
  | .none => .tuple #[.agg #[.int .i64 0, .int .u64 0], .bool false]
/-- A graph behind a Pop. -/
noncomputable def gPop (g : GS) (p : Plc) (front : Bool) : GS := match gEnd g p front with
  | some x => gdel g p false (popList (rowL g p) front) x ((g.By (p, x)).getD 0)
  | .none => g
theorem gr_pop (h : GraphAt w gb S g) (p : Plc) (hp : p.ok) (front : Bool) :
    Calls Try.prog 29 #[.pointer (some ⟨gb, 0, .none⟩), .agg #[.int .i64 p.m, .int .i64 p.s, .int .i64 p.a], .bool front] w fun e w' => e = .returned (gEndV g p front) ∧ DelPost w gb S (gPop g p front) w' := by
  have h0 := h
  obtain ⟨rm, im, bm, B, Sp, h1, h2⟩ := h
  rcases h1.rowp_list p with ⟨h3, h4, _⟩ | ⟨b, L, h3, hB, hR, hl, _, h5⟩
  · have e : gEnd g p front = .none := by unfold gEnd; rw [h4]; rfl
    unfold gEndV gPop
    rw [e]
    refine (gpop_none h1 p hp front h3).mono ?_
    rintro e w' ⟨rfl, hk⟩
    exact ⟨rfl, S, h0.kp0 hk, hk.mono (fun _ _ h => h.elim), fun k hk => hk⟩
  · obtain ⟨pre, x, post, rfl, hx, hpl⟩ := popList_parts L front (h1.ok.ne p false L hR)
    obtain ⟨n, hBy⟩ := h1.ok.by2 p false _ x hR (by simp)
    have e : gEnd g p front = some x := by unfold gEnd; rw [h5, rowL_some hR]; exact hx
    unfold gEndV gPop
    rw [e]
    simp only [rowL_some hR, hpl, hBy, Option.getD_some]
    exact gpop_some h1 h2 p hp front hB hR hx hl hBy

/-! ### Peek -/
set_option maxRecDepth 100000 in
set_option maxHeartbeats 2000000 in
theorem gr_peek (h : GraphAt w gb S g) (p : Plc) (hp : p.ok) (front : Bool) :
    Calls Try.prog 41 #[.pointer (some ⟨gb, 0, .none⟩), .agg #[.int .i64 p.m, .int .i64 p.s, .int .i64 p.a], .bool front] w fun e w' => e = .returned (gEndV g p front) ∧ Kp (fun _ => False) w w' := by
  obtain ⟨rm, im, bm, B, Sp, h1, h2⟩ := h
  have hpk : ∃ v : Hd × Bool, gEndV g p front = .tuple #[.agg #[.int .i64 v.1.s, .int .u64 v.1.g], .bool v.2] ∧ ∀ w1, Kp (fun _ => False) w w1 → Calls Try.prog 71 #[.pointer (adr (rowp B p false)), .bool front] w1 fun e w' => e = .returned (.tuple #[.agg #[.int .i64 v.1.s, .int .u64 v.1.g], .bool v.2]) ∧ Kp (fun _ => False) w1 w' := by
    rcases h1.rowp_list p with ⟨h3, h4, _⟩ | ⟨b, L, h3, hB, hR, hl, _, h5⟩
    · refine ⟨(⟨0, 0⟩, false), by unfold gEndV gEnd; rw [h4]; rfl, fun w1 _ => ?_⟩
      rw [h3, adr_none]
      exact peek_nil w1 front
    · obtain ⟨pre, x, post, rfl, hx, hpl⟩ := popList_parts L front (h1.ok.ne p false L hR)
      refine ⟨(x, true), by unfold gEndV gEnd; rw [h5, rowL_some hR]; simp only [if_true]; rw [hx], fun w1 hk => ?_⟩
      rw [h3, adr_some]
      have := list_peek (hl.kp0 hk) front
      unfold pkv at this
      rw [hx] at this
      exact this
  obtain ⟨⟨x, is⟩, hv, hpe⟩ := hpk
  rw [hv]
  simp only at hpe ⊢
  have hpeh := Lib.hid hpe
  clear hv hpe
  have hK0 : Kp (fun _ => False) w ((w.alloc (.cells #[.int .i64 p.m, .int .i64 p.s, .int .i64 p.a] 55)).alloc (.cells #[.int .i64 0, .int .u64 0] 34)) := ((Kp.refl _ _).alloc _).alloc _
  obtain ⟨hp1, hx1⟩ := two_new w (.cells #[.int .i64 p.m, .int .i64 p.s, .int .i64 p.a] 55) (.cells #[.int .i64 0, .int .u64 0] 34)
  have hP : PBox ((w.alloc (.cells #[.int .i64 p.m, .int .i64 p.s, .int .i64 p.a] 55)).alloc (.cells #[.int .i64 0, .int .u64 0] 34)) w.heap.size p := hp1
  have hZ : HBox ((w.alloc (.cells #[.int .i64 p.m, .int .i64 p.s, .int .i64 p.a] 55)).alloc (.cells #[.int .i64 0, .int .u64 0] 34)) (w.heap.size + 1) ⟨0, 0⟩ := hx1
  have hG := h1.m.kp0 hK0
  clear hp1 hx1
  go_enter Try.func41, Try.ntmps41
  go_wp2_with fail
  generalize (w.alloc (.cells #[.int .i64 p.m, .int .i64 p.s, .int .i64 p.a] 55)).alloc (.cells #[.int .i64 0, .int .u64 0] 34) = W at hK0 hP hZ hG ⊢
  refine (graph_made hG).mono ?_
  rintro e w1 ⟨rfl, rfl⟩
  have p0 := hP.c0
  have p1 := hP.c1
  have p2 := hP.c2
  go_wp2_with fail
  refine (graph_listed hG p hp).mono ?_
  rintro e w2 ⟨rfl, hk2⟩
  have hZ2 := hZ.kp0 hk2
  have hK2 := hK0.trans hk2
  clear p0 p1 p2 hG hP hZ hk2 hK0
  go_wp2_with fail
  refine (hpeh.out w2 hK2).mono ?_
  rintro e w3 ⟨rfl, hk3⟩
  have hZ3 := hZ2.kp0 hk3
  have hK3 := hK2.trans hk3
  have q0 := hZ3.c0
  have q1 := hZ3.c1
  have qf := hZ3.fz
  have ql := hZ3.lt
  go_wp2_with fail
  exact bodyPost_ret (v := .tuple #[.agg #[.int .i64 x.s, .int .u64 x.g], .bool is]) (by simp [results, Try.results41, go_sem, q0, q1]) rfl ⟨rfl, (hK3.setNew _ _ _ (by omega)).setNew _ _ _ (by omega)⟩
end
end Go.Proofs.Ytimhbnlgambcaaa
