/- The walk of Push of a graph, where it puts. -/
import Derived.Test.YtimhbnlgambcaaaGj
namespace Go.Proofs.Ytimhbnlgambcaaa
open Go.RowKit Go.BigFrame

section
variable {w w' : World} {gb rm im bm : Nat} {B : Plc → Option (Bool × Nat)} {Sp : Plc → Nat → Prop} {g : GS} {S : Nat → Prop}
theorem push_zero {p : Plc} {x : Hd} {n : Int} (h : pushErr g p x n = 0) : g.In (x, n) = .none ∧ isTreeG g p = false ∧ g.By (p, x) = .none := by
  unfold pushErr at h
  split at h
  · cases h
  · split at h
    · cases h
    · rename_i h1 h2
      simp only [not_or, Bool.not_eq_true, Option.isSome_eq_false_iff, Option.isNone_iff_eq_none] at h1 h2
      exact ⟨h1, h2.1, h2.2⟩
theorem mem_pushList {L : List Hd} {x y : Hd} {front : Bool} : y ∈ pushList L x front ↔ y = x ∨ y ∈ L := by
  cases front <;> simp [pushList, or_comm]
theorem pushList_nodup {L : List Hd} {x : Hd} {front : Bool} (nd : L.Nodup) (hx : x ∉ L) : (pushList L x front).Nodup := by
  cases front
  · simp only [pushList, Bool.false_eq_true, if_false]
    rw [List.nodup_append]
    exact ⟨nd, by simp, fun a ha b hb e => by simp at hb; subst e hb; exact hx ha⟩
  · exact List.nodup_cons.2 ⟨hx, nd⟩

set_option maxRecDepth 100000 in
set_option maxHeartbeats 4000000 in
theorem gpush_ok (h : GW w gb rm im bm B Sp g) (p : Plc) (hp : p.ok) (x : Hd) (hx : x.ok) (n : Int) (hn : nwf n) (front : Bool) (hS : ∀ k, S k ↔ (k = gb ∨ MS rm im bm k ∨ ∃ p, Sp p k)) (he : pushErr g p x n = 0) :
    Calls Try.prog 27 #[.pointer (some ⟨gb, 0, .none⟩), .agg #[.int .i64 p.m, .int .i64 p.s, .int .i64 p.a], .agg #[.int .i64 x.s, .int .u64 x.g], .int .i64 n, .bool front] w fun e w' =>
      e = .returned (.int .i64 0) ∧ PutPost w gb S (gput g p false (pushList (rowL g p) x front) x n) w' := by
  have hK0 : Kp (fun _ => False) w ((w.alloc (.cells #[.int .i64 p.m, .int .i64 p.s, .int .i64 p.a] 55)).alloc (.cells #[.int .i64 x.s, .int .u64 x.g] 34)) := ((Kp.refl _ _).alloc _).alloc _
  obtain ⟨hp1, hx1⟩ := two_new w (.cells #[.int .i64 p.m, .int .i64 p.s, .int .i64 p.a] 55) (.cells #[.int .i64 x.s, .int .u64 x.g] 34)
  have hP : PBox ((w.alloc (.cells #[.int .i64 p.m, .int .i64 p.s, .int .i64 p.a] 55)).alloc (.cells #[.int .i64 x.s, .int .u64 x.g] 34)) w.heap.size p := hp1
  have hX : HBox ((w.alloc (.cells #[.int .i64 p.m, .int .i64 p.s, .int .i64 p.a] 55)).alloc (.cells #[.int .i64 x.s, .int .u64 x.g] 34)) (w.heap.size + 1) x := hx1
  have hG := h.kp0 hK0
  have hmy := h.may_push p x n
  rw [he] at hmy
  obtain ⟨hIn, hTr, hBy⟩ := push_zero he
  have hcs := Lib.hid (h.rowp_list p)
  have hok := h.ok
  obtain ⟨rp, hrp⟩ : ∃ rp, rp = rowp B p false := ⟨_, rfl⟩
  rw [← hrp] at hmy
  have hmyh := Lib.hid hmy
  have hrph := Lib.hid hrp
  clear hp1 hx1 hmy hrp he
  go_enter Try.func27, Try.ntmps27
  go_wp2_with fail
  generalize (w.alloc (.cells #[.int .i64 p.m, .int .i64 p.s, .int .i64 p.a] 55)).alloc (.cells #[.int .i64 x.s, .int .u64 x.g] 34) = W at hK0 hP hX hG ⊢
  have p0 : ∀ q : Cls (Kp (fun _ => False) W), q.W.cell? ⟨w.heap.size, 0, .none⟩ = some (.int .i64 p.m) := fun q => (hP.kp0 q.h).c0
  have p1 : ∀ q : Cls (Kp (fun _ => False) W), q.W.cell? ⟨w.heap.size, 1, .none⟩ = some (.int .i64 p.s) := fun q => (hP.kp0 q.h).c1
  have p2 : ∀ q : Cls (Kp (fun _ => False) W), q.W.cell? ⟨w.heap.size, 2, .none⟩ = some (.int .i64 p.a) := fun q => (hP.kp0 q.h).c2
  have x0 : ∀ q : Cls (Kp (fun _ => False) W), q.W.cell? ⟨w.heap.size + 1, 0, .none⟩ = some (.int .i64 x.s) := fun q => (hX.kp0 q.h).c0
  have x1 : ∀ q : Cls (Kp (fun _ => False) W), q.W.cell? ⟨w.heap.size + 1, 1, .none⟩ = some (.int .u64 x.g) := fun q => (hX.kp0 q.h).c1
  have j53 : ∀ q : Cls (Kp (fun _ => False) W), Calls Try.prog 53 #[.pointer (some ⟨gb, 0, .none⟩)] q.W fun e w' => e = .returned (.bool true) ∧ ∃ r : Cls (Kp (fun _ => False) W), w' = r.W :=
    fun q => Calls.cls ((graph_made (hG.kp0 q.h).m).mono fun e w h => ⟨h.1, h.2 ▸ q.h⟩)
  have j54 : ∀ q : Cls (Kp (fun _ => False) W), Calls Try.prog 54 #[.pointer (some ⟨gb, 0, .none⟩), .agg #[.int .i64 p.m, .int .i64 p.s, .int .i64 p.a]] q.W fun e w' => e = .returned (.pointer (adr rp)) ∧ ∃ r : Cls (Kp (fun _ => False) W), w' = r.W :=
    fun q => Calls.cls ((graph_listed (hG.kp0 q.h).m p hp).mono fun e w h => ⟨hrph.out ▸ h.1, q.h.trans h.2⟩)
  have j52 : ∀ q : Cls (Kp (fun _ => False) W), Calls Try.prog 52 #[.pointer (some ⟨gb, 0, .none⟩), .agg #[.int .i64 p.m, .int .i64 p.s, .int .i64 p.a], .agg #[.int .i64 x.s, .int .u64 x.g], .int .i64 n, .bool rp.isSome] q.W fun e w' => e = .returned (.int .i64 0) ∧ ∃ r : Cls (Kp (fun _ => False) W), w' = r.W :=
    fun q => Calls.cls ((graph_may (hG.kp0 q.h).m p hp x hx n hn rp.isSome).mono fun e w h => ⟨hmyh.out ▸ h.1, q.h.trans h.2⟩)
  haveI : Nonempty (Cls (Kp (fun _ => False) W)) := ⟨⟨_, Kp.refl _ W⟩⟩
  have hkp : ∀ w', Kp (fun _ => False) W w' → PBox w' w.heap.size p ∧ HBox w' (w.heap.size + 1) x := fun w' hk => ⟨hP.kp0 hk, hX.kp0 hk⟩
  have hInh := Lib.hid hIn
  have hByh := Lib.hid hBy
  have hTrh := Lib.hid hTr
  have hkph := Lib.hid hkp
  clear hIn hBy hTr hkp hP hX
  have hrcase : (rp = .none ∧ B p = .none ∧ g.R p = .none) ∨ ∃ b L, rp = some b ∧ B p = some (false, b) ∧ g.R p = some (false, L) ∧ ListAt w b (Sp p) L := by
    rcases hcs.out with ⟨h1, h2, h3⟩ | ⟨b, L, h1, h2, h3, h4, _⟩
    · rcases h3 with h3 | ⟨h3, h4⟩
      · rw [hTrh.out] at h3; cases h3
      · exact .inl ⟨hrph.out.trans h1, h3, h4⟩
    · exact .inr ⟨b, L, hrph.out.trans h1, h2, h3, h4⟩
  clear hcs
  rcases hrcase with ⟨rfl, hB, hR⟩ | ⟨b, L, rfl, hB, hR, hLa⟩
  · simp only [adr_none, Option.isSome_none] at j54 j52
    refine wp_region_quiet_cls (Kp (fun _ => False) W) (by kernel_rfl) (by kernel_rfl) (Kp.refl _ W).drew ?_
    repeat (go_big_quiet_step (first
      | (go_at_call 53; with_reducible exact j53 _)
      | (go_at_call 54; with_reducible exact j54 _)
      | (go_at_call 52; with_reducible exact j52 _)))
    refine wpQuiet_nil ?_
    intro w3 hk3
    have hG3 := hG.kp0 hk3
    obtain ⟨hP3, hX3⟩ := hkph.out w3 hk3
    have hK3 := hK0.trans hk3
    clear p0 p1 p2 x0 x1 j52 j53 j54 hG hk3
    have p0 := hP3.c0
    have p1 := hP3.c1
    have p2 := hP3.c2
    go_wp2_with fail
    refine (graph_listed hG3.m p hp).mono ?_
    rintro e w4 ⟨rfl, hk4⟩
    rw [← hrph.out, adr_none]
    have hG4 := hG3.kp0 hk4
    have hP4 := hP3.kp0 hk4
    have hX4 := hX3.kp0 hk4
    have hK4 := hK3.trans hk4
    clear p0 p1 p2 hG3 hP3 hX3 hk4 hK3
    go_wp2_with fail
    refine (list_new w4).mono ?_
    rintro e w5 ⟨lb, S0, rfl, hl5, hS0, hk5⟩
    have hG5 := hG4.kp0 hk5
    have hP5 := hP4.kp0 hk5
    have hX5 := hX4.kp0 hk5
    have hK5 := hK4.trans hk5
    have hsz : w.heap.size ≤ w4.heap.size := hK4.size
    have hb4 : w.heap.size + 1 < w4.heap.size := hX4.lt
    clear hG4 hP4 hX4 hK4 hk5
    have x0 := hX5.c0
    have x1 := hX5.c1
    go_wp2_with fail
    refine (list_push hl5 x hx front (by simp)).mono ?_
    rintro e w6 ⟨rfl, S1, hl6, hk6, hS1⟩
    have hn0 : ∀ k, k < w4.heap.size → ¬ S0 k := fun k hk hs => by have := hS0 k hs; omega
    have hlt4 : ∀ k, k = gb ∨ MS rm im bm k ∨ (∃ p, Sp p k) → k < w4.heap.size := fun k hk => by
      have : k < w.heap.size := by
        rcases hk with rfl | hk | ⟨q, hk⟩
        · exact h.m.lt
        · exact h.m.lts (.inr hk)
        · exact h.splt hk
      omega
    have hG6 := hG5.kp hk6 (fun k hk => hn0 k (hlt4 k hk))
    have hP6 := hP5.kp hk6 (hn0 _ (by omega))
    have hX6 := hX5.kp hk6 (hn0 _ hb4)
    have hK6 : Kp (fun _ => False) w w6 := hK5.trans2 hk6 (fun j hj hs => hn0 j (by omega) hs)
    have hdis : ∀ k, S1 k → ¬ MS rm im bm k := fun k hk hm => by
      have h1 := hlt4 k (.inr (.inl hm))
      rcases hS1 k hk with h2 | h2
      · exact hn0 k h1 h2
      · have := hK5.size; have := hk6.size; have := hG5.m.lts (.inr hm); omega
    have hnew : ∀ k, S1 k → w.heap.size ≤ k := fun k hk => by
      rcases hS1 k hk with h2 | h2
      · have := hS0 k h2; omega
      · have := hK5.size; omega
    clear hG5 hP5 hX5 hK5 hk6 hl5 x0 x1 hlt4 hS1 hS0
    have p0 := hP6.c0
    have p1 := hP6.c1
    have p2 := hP6.c2
    have x0 := hX6.c0
    have x1 := hX6.c1
    have hnwf := Lib.hid hn
    go_wp2_with fail
    refine (graph_comes hG6.m p hp x hx n hnwf.out (false, lb)).mono ?_
    rintro e w7 ⟨rfl, hm7, hk7⟩
    have hl7 := hl6.kp hk7 hdis
    have hrow0 : rowL g p = [] := rowL_none hR
    go_wp2_with fail
    go_ret
    refine ⟨rfl, ?_⟩
    have hK7 : Kp (MS rm im bm) w w7 := (hK6.mono (fun _ _ h => h.elim)).trans hk7
    have hgw := gw_put h hm7 (show RowAt w7 false lb S1 (pushList [] x front) from hl7) (fun k hk => .inr (hnew k hk)) (hK7.mono (fun k _ hk => .inr hk)) (gok_put hok hp hx hnwf.out (fun y => by rw [hrow0]; exact mem_pushList) (pushList_nodup (by simp) (by simp)) hInh.out hByh.out)
    rw [hrow0]
    refine ⟨_, ⟨rm, im, bm, _, _, hgw, fun k => Iff.rfl⟩, hK7.mono (fun k _ hk => (hS k).2 (.inr (.inl hk))), ?_⟩
    rintro k (rfl | hk | ⟨q, ⟨_, hk⟩ | ⟨_, hk⟩⟩)
    · exact .inl ((hS k).2 (.inl rfl))
    · exact .inl ((hS k).2 (.inr (.inl hk)))
    · exact .inr (hnew k hk)
    · exact .inl ((hS k).2 (.inr (.inr ⟨q, hk⟩)))
  · simp only [adr_some, Option.isSome_some] at j54 j52
    refine wp_region_quiet_cls (Kp (fun _ => False) W) (by kernel_rfl) (by kernel_rfl) (Kp.refl _ W).drew ?_
    repeat (go_big_quiet_step (first
      | (go_at_call 53; with_reducible exact j53 _)
      | (go_at_call 54; with_reducible exact j54 _)
      | (go_at_call 52; with_reducible exact j52 _)))
    refine wpQuiet_nil ?_
    intro w3 hk3
    have hG3 := hG.kp0 hk3
    obtain ⟨hP3, hX3⟩ := hkph.out w3 hk3
    have hK3 := hK0.trans hk3
    clear p0 p1 p2 x0 x1 j52 j53 j54 hG hk3
    have p0 := hP3.c0
    have p1 := hP3.c1
    have p2 := hP3.c2
    go_wp2_with fail
    refine (graph_listed hG3.m p hp).mono ?_
    rintro e w4 ⟨rfl, hk4⟩
    rw [← hrph.out, adr_some]
    have hG4 := hG3.kp0 hk4
    have hP4 := hP3.kp0 hk4
    have hX4 := hX3.kp0 hk4
    have hK4 := hK3.trans hk4
    have hsz : w.heap.size ≤ w4.heap.size := hK4.size
    have hb4 : w.heap.size + 1 < w4.heap.size := hX4.lt
    clear p0 p1 p2 hG3 hP3 hX3 hk4 hK3
    have hl4 := hLa.kp0 hK4
    have hxL : x ∉ L := fun hm => by
      obtain ⟨m, hm⟩ := hok.by2 p false L x hR hm
      rw [hByh.out] at hm
      cases hm
    have hndL := hok.nd p false L hR
    have x0 := hX4.c0
    have x1 := hX4.c1
    go_wp2_with fail
    refine (list_push hl4 x hx front hxL).mono ?_
    rintro e w6 ⟨rfl, S1, hl6, hk6, hS1⟩
    have hn0 : ∀ k, w.heap.size ≤ k → ¬ Sp p k := fun k hk hs => by have := h.splt hs; omega
    have hP6 := hP4.kp hk6 (hn0 _ (Nat.le_refl _))
    have hX6 := hX4.kp hk6 (hn0 _ (Nat.le_succ _))
    have hm6 := hG4.m.kp hk6 (fun k hk hs => (h.dis p k hs).2 (by
      rcases hk with rfl | hk
      · exact absurd rfl (h.dis p k hs).1
      · exact hk))
    have hK6 : Kp (Sp p) w w6 := (hK4.mono (fun _ _ h => h.elim)).trans hk6
    have hdis : ∀ k, S1 k → ¬ MS rm im bm k := fun k hk hm => by
      rcases hS1 k hk with h2 | h2
      · exact (h.dis p k h2).2 hm
      · have := h.m.lts (.inr hm); omega
    have hnew : ∀ k, S1 k → Sp p k ∨ w.heap.size ≤ k := fun k hk => by
      rcases hS1 k hk with h2 | h2
      · exact .inl h2
      · exact .inr (by omega)
    clear hG4 hP4 hX4 hK4 hk6 hl4 x0 x1 hS1
    have p0 := hP6.c0
    have p1 := hP6.c1
    have p2 := hP6.c2
    have x0 := hX6.c0
    have x1 := hX6.c1
    have hnwf := Lib.hid hn
    go_wp2_with fail
    refine (graph_comes hm6 p hp x hx n hnwf.out (false, b)).mono ?_
    rintro e w7 ⟨rfl, hm7, hk7⟩
    have hl7 := hl6.kp hk7 hdis
    have hrow0 : rowL g p = L := rowL_some hR
    go_wp2_with fail
    go_ret
    refine ⟨rfl, ?_⟩
    have hK7 : Kp (fun k => Sp p k ∨ MS rm im bm k) w w7 := (hK6.mono (fun _ _ h => .inl h)).trans (hk7.mono (fun _ _ h => .inr h))
    have hgw := gw_put h hm7 (show RowAt w7 false b S1 (pushList L x front) from hl7) hnew hK7 (gok_put hok hp hx hnwf.out (fun y => by rw [hrow0]; exact mem_pushList) (pushList_nodup hndL hxL) hInh.out hByh.out)
    rw [hrow0]
    refine ⟨_, ⟨rm, im, bm, _, _, hgw, fun k => Iff.rfl⟩, hK7.mono (fun k _ hk => (hS k).2 (hk.elim (fun h => .inr (.inr ⟨p, h⟩)) (fun h => .inr (.inl h)))), ?_⟩
    rintro k (rfl | hk | ⟨q, ⟨_, hk⟩ | ⟨_, hk⟩⟩)
    · exact .inl ((hS k).2 (.inl rfl))
    · exact .inl ((hS k).2 (.inr (.inl hk)))
    · exact (hnew k hk).imp (fun h => (hS k).2 (.inr (.inr ⟨p, h⟩))) id
    · exact .inl ((hS k).2 (.inr (.inr ⟨q, hk⟩)))

open Classical in
/-- A graph behind a Push. -/
noncomputable def gPush (g : GS) (p : Plc) (x : Hd) (n : Int) (front : Bool) : GS := if pushErr g p x n = 0 then gput g p false (pushList (rowL g p) x front) x n else g
theorem gr_push (h : GraphAt w gb S g) (p : Plc) (hp : p.ok) (x : Hd) (hx : x.ok) (n : Int) (hn : nwf n) (front : Bool) :
    Calls Try.prog 27 #[.pointer (some ⟨gb, 0, .none⟩), .agg #[.int .i64 p.m, .int .i64 p.s, .int .i64 p.a], .agg #[.int .i64 x.s, .int .u64 x.g], .int .i64 n, .bool front] w fun e w' =>
      e = .returned (.int .i64 (pushErr g p x n)) ∧ PutPost w gb S (gPush g p x n front) w' := by
  have h0 := h
  obtain ⟨rm, im, bm, B, Sp, h1, h2⟩ := h
  by_cases he : pushErr g p x n = 0
  · unfold gPush
    rw [if_pos he, he]
    exact gpush_ok h1 p hp x hx n hn front h2 he
  · unfold gPush
    rw [if_neg he]
    refine (gpush_err h1 p hp x hx n hn front he).mono ?_
    rintro e w' ⟨rfl, hk⟩
    exact ⟨rfl, S, h0.kp0 hk, hk.mono (fun _ _ h => h.elim), fun k hk => .inl hk⟩
end
end Go.Proofs.Ytimhbnlgambcaaa
