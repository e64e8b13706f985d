/- The walk of Insert. -/
import Derived.Test.YtimhbnlgambcaaaTF
namespace Go.Proofs.Ytimhbnlgambcaaa
open Go.RowKit

theorem hlook (w : World) (mb n : Nat) (F : Hd → Option Nat) (hM : MapT w mb n F) (h : Hd) (hk : h.ok) (r : Option Nat) (hr : F h = r) (k : Nat) :
    (Instr.lookup 88 (.map (some mb)) (.agg #[.int .i64 h.s, .int .u64 h.g]) false).run Try.prog (w.drewN k) = .ok (.pointer (adr r)) (w.drewN k) := hr ▸ (hM.drewN k).look h hk

theorem Kp.setNew {S : Nat → Prop} {a w : World} (h : Kp S a w) (b i : Nat) (v : Value) (hb : a.heap.size ≤ b) : Kp S a (w.setCell ⟨b, i, .none⟩ v) :=
  ⟨h.os, h.tape, h.output, by simpa using h.size, fun k hk hs => (Below.heap_setCell _ _ _ _ (by show k ≠ b; omega)).trans (h.block k hk hs)⟩
theorem Kp.trans2 {S S' : Nat → Prop} {a b c : World} (h : Kp S a b) (k : Kp S' b c) (hs : ∀ j, j < a.heap.size → S' j → S j) : Kp S a c :=
  ⟨k.os.trans h.os, k.tape.trans h.tape, k.output.trans h.output, Nat.le_trans h.size k.size, fun i hi hn => (k.block i (Nat.lt_of_lt_of_le hi h.size) (fun h' => hn (hs i hi h'))).trans (h.block i hi hn)⟩

theorem TR.add {w : World} {tb mb : Nat} {root : Option Nat} {H : Hp} (h : TR w tb mb root H) (nd : Nd) (x : Nat) (hx : x = w.heap.size) : TR (w.alloc (.cells nd.cells 95)) tb mb root (hadd H x nd) := by
  subst hx
  refine ⟨(Below.heap_alloc _ _ _ h.t.lt).trans h.t, fun b y hy => ?_⟩
  unfold hadd at hy
  by_cases e : b = w.heap.size
  · rw [if_pos e] at hy
    cases hy
    subst e
    exact (MapKept.heap_alloc w _).1
  · rw [if_neg e] at hy
    exact (Below.heap_alloc _ _ _ (h.h b y hy).lt).trans (h.h b y hy)

theorem descH_dom : ∀ {k : Nat} {H H' : Hp} {b c : Nat} {i : Int} {s : Bool}, descH k H b i = some (H', c, s) → ∀ j, (H' j).isSome = (H j).isSome
  | 0, _, _, _, _, _, _, h, _ => by cases h
  | k + 1, H, H', b, c, i, s, h, j => by
    simp only [descH, Option.bind_eq_some_iff] at h
    obtain ⟨A, hA, left, hl, h⟩ := h
    split at h
    · split at h
      · cases h; exact upd_dom _ _ _ _
      · rw [descH_dom h, upd_dom]
    · split at h
      · cases h; exact upd_dom _ _ _ _
      · rw [descH_dom h, upd_dom]

set_option maxRecDepth 100000 in
set_option maxHeartbeats 1000000 in
theorem insert_neg (w : World) (tb mb n : Nat) (root : Option Nat) (H : Hp) (F : Hd → Option Nat) (hT : TW w tb mb n root H F) (i : Int) (h : Hd) (hi : i < 0) :
    Calls Try.prog 14 #[.pointer (some ⟨tb, 0, .none⟩), .int .i64 i, .agg #[.int .i64 h.s, .int .u64 h.g]] w fun e w' => e = .returned (.int .i64 2) ∧ TW w' tb mb n root H F ∧ Kp (fun _ => False) w w' := by
  have t1 := hT.r.t.c1
  have qm := fun (w : World) => run_eql_map_nil (P := Try.prog) w 88 34 89 (some mb) Try.underlying88
  have tl := hT.r.t.lt
  go_enter Try.func14, Try.ntmps14
  go_wp2_with fail
  refine bodyPost_ret (results_tmp rfl _ _ _) rfl ?_
  exact ⟨rfl, ⟨hT.r.alloc _, hT.m.alloc _⟩, (Kp.refl _ _).alloc _⟩

set_option maxRecDepth 100000 in
set_option maxHeartbeats 1000000 in
theorem insert_big (w : World) (tb mb n : Nat) (root : Option Nat) (H : Hp) (F : Hd → Option Nat) (hT : TW w tb mb n root H F) (i len : Int) (h : Hd) (hl : sizeH H root = some len) (hi : 0 ≤ i) (hi' : len < i) :
    Calls Try.prog 14 #[.pointer (some ⟨tb, 0, .none⟩), .int .i64 i, .agg #[.int .i64 h.s, .int .u64 h.g]] w fun e w' => e = .returned (.int .i64 2) ∧ TW w' tb mb n root H F ∧ Kp (fun _ => False) w w' := by
  have t1 := hT.r.t.c1
  have qm := fun (w : World) => run_eql_map_nil (P := Try.prog) w 88 34 89 (some mb) Try.underlying88
  have tl := hT.r.t.lt
  go_enter Try.func14, Try.ntmps14
  go_wp2_with fail
  refine (len_any _ tb mb root H (hT.r.alloc _) len hl).mono ?_
  rintro e w1 ⟨rfl, rfl⟩
  go_wp2_with fail
  refine bodyPost_ret (results_tmp rfl _ _ _) rfl ?_
  exact ⟨rfl, ⟨hT.r.alloc _, hT.m.alloc _⟩, (Kp.refl _ _).alloc _⟩

set_option maxRecDepth 100000 in
set_option maxHeartbeats 1000000 in
theorem insert_there (w : World) (tb mb n : Nat) (root : Option Nat) (H : Hp) (F : Hd → Option Nat) (hT : TW w tb mb n root H F) (i len : Int) (h : Hd) (hk : h.ok) (hl : sizeH H root = some len) (hi : 0 ≤ i) (hi' : i ≤ len) (b : Nat) (hF : F h = some b) :
    Calls Try.prog 14 #[.pointer (some ⟨tb, 0, .none⟩), .int .i64 i, .agg #[.int .i64 h.s, .int .u64 h.g]] w fun e w' => e = .returned (.int .i64 7) ∧ TW w' tb mb n root H F ∧ Kp (fun _ => False) w w' := by
  have t1 := hT.r.t.c1
  have qm := fun (w : World) => run_eql_map_nil (P := Try.prog) w 88 34 89 (some mb) Try.underlying88
  have tl := hT.r.t.lt
  have hlk := fun o k => hlook (w.alloc o) mb n F (hT.m.alloc o) h hk (some b) hF k
  simp only [adr_some] at hlk
  go_enter Try.func14, Try.ntmps14
  go_wp2_with fail
  refine (len_any _ tb mb root H (hT.r.alloc _) len hl).mono ?_
  rintro e w1 ⟨rfl, rfl⟩
  go_wp2_with fail
  go_quiet (fail)
  go_wp2_with fail
  refine bodyPost_ret (results_tmp rfl _ _ _) rfl ?_
  exact ⟨rfl, ⟨(hT.r.alloc _).drewN _, (hT.m.alloc _).drewN _⟩, ((Kp.refl _ _).alloc _).drewN _⟩

set_option maxRecDepth 100000 in
set_option maxHeartbeats 2000000 in
theorem insert_ok (w : World) (tb mb n k : Nat) (root root' : Option Nat) (H H' : Hp) (F : Hd → Option Nat) (hT : TW w tb mb n root H F) (i len : Int) (h : Hd) (hk : h.ok) (hl : sizeH H root = some len) (hi : 0 ≤ i) (hi' : i ≤ len) (hF : F h = .none)
    (hins : insH k root (hadd H (w.heap.size + 1) ⟨h.s, h.g, .none, .none, .none, 1, true⟩) i (w.heap.size + 1) = some (root', H')) :
    Calls Try.prog 14 #[.pointer (some ⟨tb, 0, .none⟩), .int .i64 i, .agg #[.int .i64 h.s, .int .u64 h.g]] w fun e w' => e = .returned (.int .i64 0) ∧ TW w' tb mb (n + 1) root' H' (fput F h (w.heap.size + 1)) ∧ Kp (TSM tb mb H) w w' := by
  have t1 := hT.r.t.c1
  have qm := fun (w : World) => run_eql_map_nil (P := Try.prog) w 88 34 89 (some mb) Try.underlying88
  have tl := hT.r.t.lt
  have hlk := fun o k => hlook (w.alloc o) mb n F (hT.m.alloc o) h hk .none hF k
  simp only [adr_none] at hlk
  go_enter Try.func14, Try.ntmps14
  go_wp2_with fail
  refine (len_any _ tb mb root H (hT.r.alloc _) len hl).mono ?_
  rintro e w1 ⟨rfl, rfl⟩
  go_wp2_with fail
  go_quiet (fail)
  go_wp2_with fail
  have hx1 : w.heap.size + 1 = ((w.alloc (.cells #[.int .i64 h.s, .int .u64 h.g] 34)).drewN nq).heap.size := by simp
  have hR2 : TR (((w.alloc (.cells #[.int .i64 h.s, .int .u64 h.g] 34)).drewN nq).alloc (.cells #[.int .i64 h.s, .int .u64 h.g, .pointer .none, .pointer .none, .pointer .none, .int .i64 1, .bool true] 95)) tb mb root (hadd H (w.heap.size + 1) ⟨h.s, h.g, .none, .none, .none, 1, true⟩) :=
    ((hT.r.alloc _).drewN nq).add ⟨h.s, h.g, .none, .none, .none, 1, true⟩ _ hx1
  have hM2 := ((hT.m.alloc (.cells #[.int .i64 h.s, .int .u64 h.g] 34)).drewN nq).alloc (.cells #[.int .i64 h.s, .int .u64 h.g, .pointer .none, .pointer .none, .pointer .none, .int .i64 1, .bool true] 95)
  have hK2 : Kp (TSM tb mb H) w (((w.alloc (.cells #[.int .i64 h.s, .int .u64 h.g] 34)).drewN nq).alloc (.cells #[.int .i64 h.s, .int .u64 h.g, .pointer .none, .pointer .none, .pointer .none, .int .i64 1, .bool true] 95)) :=
    (((Kp.refl _ _).alloc _).drewN nq).alloc _
  have hc2 : (((w.alloc (.cells #[.int .i64 h.s, .int .u64 h.g] 34)).drewN nq).alloc (.cells #[.int .i64 h.s, .int .u64 h.g, .pointer .none, .pointer .none, .pointer .none, .int .i64 1, .bool true] 95)).heap[w.heap.size]? = some (.cells #[.int .i64 h.s, .int .u64 h.g] 34 (0, 0)) :=
    (Below.heap_alloc _ _ _ (by simp)).trans (MapKept.heap_alloc w _).1
  generalize hW : (((w.alloc (.cells #[.int .i64 h.s, .int .u64 h.g] 34)).drewN nq).alloc (.cells #[.int .i64 h.s, .int .u64 h.g, .pointer .none, .pointer .none, .pointer .none, .int .i64 1, .bool true] 95)) = W at hR2 hM2 hK2 hc2 ⊢
  clear hW
  have p0 : W.cell? ⟨w.heap.size, 0, .none⟩ = some (.int .i64 h.s) := by simp [World.cell?, hc2]
  have p1 : W.cell? ⟨w.heap.size, 1, .none⟩ = some (.int .u64 h.g) := by simp [World.cell?, hc2]
  have hT2 : TW _ tb mb n root _ F := ⟨hR2, hM2⟩
  have hmb2 := hT2.hmb
  have htb2 := hT2.tb
  clear hx1 qm hlk hT t1 tl
  have t1 := hR2.t.c1
  cases root with
  | none =>
    simp only [insH, Option.some.injEq, Prod.mk.injEq] at hins
    obtain ⟨rfl, rfl⟩ := hins
    go_still_tail 6, (by kernel_rfl)
    go_wp2_with (at_mapUpdate; refine wpList_store_t rfl _ _ _ rfl rfl hM2.drew h hk (w.heap.size + 1) rfl rfl ?_; intro w2 hM3 ho; have hR3 := hR2.drew.only ho htb2 hmb2; have hK3 := hK2.drew.trans (ho.kp (.inl rfl)); have t0 := hR3.t.c0; have tf := hR3.t.fz; have x6 := (hR3.h (w.heap.size + 1) _ (by simp [hadd]; rfl)).c6; have xf := (hR3.h (w.heap.size + 1) _ (by simp [hadd]; rfl)).fz; simp only [adr_none] at t0)
    refine bodyPost_ret (results_tmp rfl _ _ _) rfl ?_
    exact ⟨rfl, ⟨(hR3.root' (some (w.heap.size + 1))).red _ false (by simp [hadd]), (hM3.setCell tb 0 _ htb2).setCell _ _ _ (fun e => by have := hmb2; simp [← e, hadd] at this)⟩,
      (hK3.setCell tb 0 _ (.inr (.inl rfl))).setNew _ _ _ (by omega)⟩
  | some r =>
    simp only [insH, Option.bind_eq_some_iff] at hins
    obtain ⟨⟨H1, b, s⟩, hdesc, hins⟩ := hins
    by_cases hbx : b = w.heap.size + 1
    · simp [hbx] at hins
    simp only [if_neg hbx, Option.bind_eq_some_iff] at hins
    obtain ⟨B, hB, X, hX, hset⟩ := hins
    clear hi hi' hl
    go_still_tail 6, (by kernel_rfl)
    go_wp2_with (at_mapUpdate; refine wpList_store_t rfl _ _ _ rfl rfl hM2.drew h hk (w.heap.size + 1) rfl rfl ?_; intro w2 hM3 ho; have hR3 := hR2.drew.only ho htb2 hmb2; have hK3 := hK2.drew.trans (ho.kp (.inl rfl)); have t0 := hR3.t.c0; have tf := hR3.t.fz; simp only [adr_some] at t0)
    clear hR2 hM2 hK2 hc2 p0 p1 hT2 ho t1
    go_loopg [1, 8] k (fun m v v8 wr => ∃ i1 b1 H0, v = .int .i64 i1 ∧ v8 = .pointer (some ⟨b1, 0, .none⟩) ∧ descH m H0 b1 i1 = some (H1, b, s) ∧ TR wr tb mb (some r) H0 ∧ MapT wr mb (n + 1) (fput F h (w.heap.size + 1)) ∧ TS tb H0 = TS tb (hadd H (w.heap.size + 1) ⟨h.s, h.g, .none, .none, .none, 1, true⟩) ∧ Kp (TSM tb mb H) w wr)
    case atStart => exact ⟨i, r, _, rfl, rfl, hdesc, hR3, hM3, rfl, hK3⟩
    case round =>
      obtain ⟨i1, b1, H0, rfl, rfl, hd, hR4, hM4, hS4, hK4⟩ := hrel
      have hS := Lib.hid hS4
      clear hS4 hR3 hM3 hK3 t0 tf hdesc
      cases gk with
      | zero => cases hd
      | succ m =>
      simp only [descH, Option.bind_eq_some_iff] at hd
      obtain ⟨A, hA, left, hleft, hd⟩ := hd
      have a2 := (hR4.h b1 A hA).c2
      have a3 := (hR4.h b1 A hA).c3
      have a5 := (hR4.h b1 A hA).c5
      have af := (hR4.h b1 A hA).fz
      have hR5 := hR4.n b1 (wrap64 (A.n + 1)) (by simp [hA])
      have tsb : TS tb H0 b1 := .inr (by simp [hA])
      have hK5 : Kp (TSM tb mb H) w (wr.setCell ⟨b1, 5, .none⟩ (.int .i64 (wrap64 (A.n + 1)))) := by
        rw [hS.out] at tsb
        rcases tsb with e | e
        · exact hK4.setCell _ _ _ (.inr (.inl e))
        · unfold hadd at e
          by_cases e' : b1 = w.heap.size + 1
          · exact hK4.setNew _ _ _ (by omega)
          · rw [if_neg e'] at e
            exact hK4.setCell _ _ _ (.inr (.inr e))
      have hM5 := hM4.setCell b1 5 (.int .i64 (wrap64 (A.n + 1))) (hM4.ne (hR4.h b1 A hA))
      have hS5 := Lib.hid ((TS.of_dom (tb := tb) (fun j => upd_dom H0 b1 j (·.setN (wrap64 (A.n + 1))))).trans hS.out)
      clear tsb
      have hnmb : ¬ TS tb (hadd H (w.heap.size + 1) ⟨h.s, h.g, .none, .none, .none, 1, true⟩) mb := by
        rintro (e | e)
        · exact htb2 e.symm
        · rw [hmb2] at e; cases e
      have hold : ∀ j, j < w.heap.size → TS tb (hadd H (w.heap.size + 1) ⟨h.s, h.g, .none, .none, .none, 1, true⟩) j → TSM tb mb H j := by
        rintro j hj (e | e)
        · exact .inr (.inl e)
        · unfold hadd at e
          rw [if_neg (by omega)] at e
          exact .inr (.inr e)
      by_cases hlt : i1 > left
      · rw [if_pos hlt] at hd
        obtain ⟨rr, hrr⟩ : ∃ rr, rr = A.r := ⟨_, rfl⟩
        rw [← hrr] at a3 hd
        clear hrr
        cases rr with
        | none =>
          cases hd
          simp only [adr_none] at a3
          obtain ⟨X0, hX0⟩ : ∃ X0, H0 (w.heap.size + 1) = some X0 := Option.isSome_iff_exists.1 (by rw [← upd_dom H0 b (w.heap.size + 1) (·.setN (wrap64 (A.n + 1)))]; simp [hX])
          have x4 := (hR4.h _ X0 hX0).c4
          have xf := (hR4.h _ X0 hX0).fz
          have hR6 := (hR5.kid1 b (some (w.heap.size + 1)) (by simp [upd_dom, hA])).up (w.heap.size + 1) (some b) (by simp [upd_dom, hX0])
          have hbs : TSM tb mb H b ∨ w.heap.size ≤ b := by
            have tsb : TS tb H0 b := .inr (by simp [hA])
            rw [hS.out] at tsb
            by_cases hbl : b < w.heap.size
            · exact .inl (hold b hbl tsb)
            · exact .inr (by omega)
          have hK6 : Kp (TSM tb mb H) w ((wr.setCell ⟨b, 5, .none⟩ (.int .i64 (wrap64 (A.n + 1)))).setCell ⟨b, 3, .none⟩ (.pointer (some ⟨w.heap.size + 1, 0, .none⟩))) := by
            rcases hbs with e | e
            · exact hK5.setCell _ _ _ e
            · exact hK5.setNew _ _ _ e
          have hM6 := (hM5.setCell b 3 (.pointer (some ⟨w.heap.size + 1, 0, .none⟩)) (hM4.ne (hR4.h b A hA))).setCell (w.heap.size + 1) 4 (.pointer (some ⟨b, 0, .none⟩)) (hM4.ne (hR4.h _ X0 hX0))
          have hS6 : TS tb (upd (upd (upd H0 b (·.setN (wrap64 (A.n + 1)))) b (·.setKid true (some (w.heap.size + 1)))) (w.heap.size + 1) (·.setUp (some b))) = TS tb (hadd H (w.heap.size + 1) ⟨h.s, h.g, .none, .none, .none, 1, true⟩) :=
            (TS.of_dom (fun j => by simp only [upd_dom])).trans hS.out
          have hT6 := Lib.hid hS6
          clear hS6 hbs
          go_wp2_with fail
          refine (size_any _ _ hR5.h _ _ hleft).mono ?_
          rintro e w3 ⟨rfl, rfl⟩
          go_wp2_with fail
          refine (settles_any _ tb mb k (some r) root' _ H' hR6 _ hset).mono ?_
          rintro e w4 ⟨rfl, hR7, hK7⟩
          go_wp2_with fail
          refine bodyPost_ret (results_tmp rfl _ _ _) rfl ?_
          rw [hT6.out] at hK7
          exact ⟨rfl, ⟨hR7, hM6.kp hK7 hnmb⟩, (hK6.setNew _ _ _ (by omega)).trans2 hK7 hold⟩
        | some c =>
          simp only [adr_some] at a3
          go_wp2_with fail
          refine (size_any _ _ hR5.h _ _ hleft).mono ?_
          rintro e w3 ⟨rfl, rfl⟩
          go_wp2_with fail
          go_roundg m
          case measure => omega
          case rel => exact ⟨_, c, _, rfl, rfl, hd, hR5, hM5, hS5.out, hK5⟩
      · rw [if_neg hlt] at hd
        obtain ⟨rr, hrr⟩ : ∃ rr, rr = A.l := ⟨_, rfl⟩
        rw [← hrr] at a2 hd hleft
        clear hrr
        cases rr with
        | none =>
          cases hd
          simp only [adr_none] at a2
          obtain ⟨X0, hX0⟩ : ∃ X0, H0 (w.heap.size + 1) = some X0 := Option.isSome_iff_exists.1 (by rw [← upd_dom H0 b (w.heap.size + 1) (·.setN (wrap64 (A.n + 1)))]; simp [hX])
          have x4 := (hR4.h _ X0 hX0).c4
          have xf := (hR4.h _ X0 hX0).fz
          have hR6 := (hR5.kid0 b (some (w.heap.size + 1)) (by simp [upd_dom, hA])).up (w.heap.size + 1) (some b) (by simp [upd_dom, hX0])
          have hbs : TSM tb mb H b ∨ w.heap.size ≤ b := by
            have tsb : TS tb H0 b := .inr (by simp [hA])
            rw [hS.out] at tsb
            by_cases hbl : b < w.heap.size
            · exact .inl (hold b hbl tsb)
            · exact .inr (by omega)
          have hK6 : Kp (TSM tb mb H) w ((wr.setCell ⟨b, 5, .none⟩ (.int .i64 (wrap64 (A.n + 1)))).setCell ⟨b, 2, .none⟩ (.pointer (some ⟨w.heap.size + 1, 0, .none⟩))) := by
            rcases hbs with e | e
            · exact hK5.setCell _ _ _ e
            · exact hK5.setNew _ _ _ e
          have hM6 := (hM5.setCell b 2 (.pointer (some ⟨w.heap.size + 1, 0, .none⟩)) (hM4.ne (hR4.h b A hA))).setCell (w.heap.size + 1) 4 (.pointer (some ⟨b, 0, .none⟩)) (hM4.ne (hR4.h _ X0 hX0))
          have hS6 : TS tb (upd (upd (upd H0 b (·.setN (wrap64 (A.n + 1)))) b (·.setKid false (some (w.heap.size + 1)))) (w.heap.size + 1) (·.setUp (some b))) = TS tb (hadd H (w.heap.size + 1) ⟨h.s, h.g, .none, .none, .none, 1, true⟩) :=
            (TS.of_dom (fun j => by simp only [upd_dom])).trans hS.out
          have hT6 := Lib.hid hS6
          clear hS6 hbs
          go_wp2_with fail
          refine (size_any _ _ hR5.h _ _ hleft).mono ?_
          rintro e w3 ⟨rfl, rfl⟩
          go_wp2_with fail
          refine (settles_any _ tb mb k (some r) root' _ H' hR6 _ hset).mono ?_
          rintro e w4 ⟨rfl, hR7, hK7⟩
          go_wp2_with fail
          refine bodyPost_ret (results_tmp rfl _ _ _) rfl ?_
          rw [hT6.out] at hK7
          exact ⟨rfl, ⟨hR7, hM6.kp hK7 hnmb⟩, (hK6.setNew _ _ _ (by omega)).trans2 hK7 hold⟩
        | some c =>
          simp only [adr_some] at a2
          go_wp2_with fail
          refine (size_any _ _ hR5.h _ _ hleft).mono ?_
          rintro e w3 ⟨rfl, rfl⟩
          go_wp2_with fail
          go_roundg m
          case measure => omega
          case rel => exact ⟨_, c, _, rfl, rfl, hd, hR5, hM5, hS5.out, hK5⟩

end Go.Proofs.Ytimhbnlgambcaaa
