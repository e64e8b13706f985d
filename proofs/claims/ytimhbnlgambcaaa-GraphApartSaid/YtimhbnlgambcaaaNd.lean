/- The walks of Remove and Pop of a list; the list's contracts. -/
import Derived.Test.YtimhbnlgambcaaaNc
import Derived.Deep.DeepCutAuto
namespace Go.Proofs.Ytimhbnlgambcaaa
open Go.RowKit Go.BigFrame

theorem lw_cut {w w' : World} {lb mb : Nat} {H H' : LHp} {F : Hd → Option Nat} {pre post : LL} {x : Hd × Nat} (h : LW w lb mb H F (pre ++ x :: post))
    (t : LsAt w' lb mb (hdL (pre ++ post) .none) (lsL (pre ++ post) .none)) (hh : LLies w' H') (m : MapL w' mb (pre ++ post).length (fdel F x.1)) (c : Chain (delL H' x.2) .none (pre ++ post) .none) (dom : ∀ k, (H' k).isSome = (H k).isSome) :
    LW w' lb mb (delL H' x.2) (fdel F x.1) (pre ++ post) := by
  have hnd := h.nd
  have hhn := h.hn
  obtain ⟨n1, n2, n3, n4⟩ := nodup_mid hnd
  have hm : ∀ p, p ∈ pre ++ post → p ∈ pre ++ x :: post := fun p hp => by
    rcases List.mem_append.1 hp with hp | hp
    · exact List.mem_append_left _ hp
    · exact List.mem_append_right _ (List.mem_cons_of_mem _ hp)
  have hxs : x.1 ∉ hsL pre ∧ x.1 ∉ hsL post ∧ (hsL (pre ++ post)).Nodup := by
    simp only [hsL, List.map_append, List.map_cons] at hhn ⊢
    rw [List.nodup_append] at hhn ⊢
    obtain ⟨h1, h2, h3⟩ := hhn
    obtain ⟨h4, h5⟩ := List.nodup_cons.1 h2
    exact ⟨fun hm => h3 _ hm _ (by simp) rfl, h4, h1, h5, fun a ha b hb => h3 a ha b (by simp [hb])⟩
  refine ⟨t, hh.del _, m, c, n3, hxs.2.2, ?_, ?_, ?_⟩
  · intro y b
    unfold fdel
    by_cases e : y = x.1
    · rw [if_pos e]
      subst e
      simp only [reduceCtorEq, false_iff]
      intro hp
      rcases List.mem_append.1 hp with hp | hp
      · exact hxs.1 (List.mem_map.2 ⟨_, hp, rfl⟩)
      · exact hxs.2.1 (List.mem_map.2 ⟨_, hp, rfl⟩)
    · rw [if_neg e, h.f]
      constructor
      · intro hp
        rcases List.mem_append.1 hp with hp | hp
        · exact List.mem_append_left _ hp
        · rcases List.mem_cons.1 hp with hp | hp
          · exact absurd (congrArg Prod.fst hp) e
          · exact List.mem_append_right _ hp
      · exact hm _
  · intro y hy
    obtain ⟨p, hp, rfl⟩ := List.mem_map.1 hy
    exact h.ok _ (List.mem_map.2 ⟨p, hm p hp, rfl⟩)
  · intro k
    have hd := h.dom k
    rw [← dom] at hd
    unfold delL
    by_cases e : k = x.2
    · rw [if_pos e]
      subst e
      simp only [Option.isSome_none, Bool.false_eq_true, false_iff]
      intro hk
      simp only [blsL, List.map_append, List.mem_append] at hk
      exact hk.elim n1 n2
    · rw [if_neg e, hd]
      simp only [blsL, List.map_append, List.map_cons, List.mem_append, List.mem_cons]
      constructor
      · rintro (h | h | h)
        · exact .inl h
        · exact absurd h e
        · exact .inr h
      · rintro (h | h)
        · exact .inl h
        · exact .inr (.inr h)

set_option maxRecDepth 100000 in
set_option maxHeartbeats 1000000 in
theorem lremove_out {w : World} {lb mb : Nat} {H : LHp} {F : Hd → Option Nat} {l : LL} (hw : LW w lb mb H F l) (x : Hd) (hx : x.ok) (hF : F x = .none) :
    Calls Try.prog 61 #[.pointer (some ⟨lb, 0, .none⟩), .agg #[.int .i64 x.s, .int .u64 x.g]] w fun e w' => e = .returned (.bool false) ∧ Kp (fun _ => False) w w' := by
  have hK1 : Kp (fun _ => False) w (w.alloc (.cells #[.int .i64 x.s, .int .u64 x.g] 34)) := (Kp.refl _ _).alloc _
  go_enter Try.func61, Try.ntmps61
  go_wp2_with fail
  refine (has_at (hw.kp0 hK1) x hx .none hF).mono ?_
  rintro e w1 ⟨rfl, hk⟩
  go_wp2_with fail
  go_ret
  exact ⟨rfl, hK1.trans hk⟩

/-- What Remove leaves. -/
def CutPost (w : World) (lb mb : Nat) (pre post : LL) (x : Hd × Nat) (w' : World) : Prop :=
  (∃ H' F', LW w' lb mb H' F' (pre ++ post)) ∧ Kp (fun k => k = lb ∨ k = mb ∨ k ∈ blsL (pre ++ x :: post)) w w'

set_option maxRecDepth 100000 in
set_option maxHeartbeats 4000000 in
theorem lremove_ok {w : World} {lb mb : Nat} {H : LHp} {F : Hd → Option Nat} {pre post : LL} {x : Hd} {b : Nat} (hw : LW w lb mb H F (pre ++ (x, b) :: post)) (hx : x.ok) :
    Calls Try.prog 61 #[.pointer (some ⟨lb, 0, .none⟩), .agg #[.int .i64 x.s, .int .u64 x.g]] w fun e w' => e = .returned (.bool true) ∧ CutPost w lb mb pre post (x, b) w' := by
  have hF : F x = some b := (hw.f x b).2 (by simp)
  have hK1 : Kp (fun _ => False) w (w.alloc (.cells #[.int .i64 x.s, .int .u64 x.g] 34)) := (Kp.refl _ _).alloc _
  go_enter Try.func61, Try.ntmps61
  go_wp2_with fail
  have hbx := heap_alloc_new w (.cells #[.int .i64 x.s, .int .u64 x.g] 34)
  refine (has_at (hw.kp0 hK1) x hx (some b) hF).mono ?_
  rintro e w1 ⟨rfl, hk⟩
  have hbx1 : HBox w1 w.heap.size x := (hk.block _ (by simp) (fun h => h)).trans hbx
  have hK2 := hK1.trans hk
  have hw1 := hw.kp0 hK2
  clear hK1 hk hbx
  have p0 := hbx1.c0
  have p1 := hbx1.c1
  have c0 := hw1.t.c0
  have hlk := fun k => hw1.m.look x hx (some b) hF k
  simp only [adr_some] at hlk
  go_wp2_with fail
  go_quiet (fail)
  have hw2 := hw1.kp0 ((Kp.refl _ _).drewN nq)
  have hK3 := hK2.drewN nq
  have hbx2 : HBox (w1.drewN nq) w.heap.size x := hbx1
  clear p0 p1 c0 hlk hw1 hK2 hbx1
  generalize w1.drewN nq = w2 at hw2 hK3 hbx2 ⊢
  have p0 := hbx2.c0
  have p1 := hbx2.c1
  have c0 := hw2.t.c0
  go_wp2_with fail
  go_still_tail 5, (by kernel_rfl)
  refine wpList_delete_l rfl _ _ rfl rfl (MapL.drewN (w := w2) hw2.m 1) x hx b hF rfl ?_
  intro w3 hM3 ho
  go_step
  have hlb : lb ≠ mb := hw2.m.ne hw2.t
  have hT3 : LsAt w3 lb mb (hdL (pre ++ (x, b) :: post) .none) (lsL (pre ++ (x, b) :: post) .none) := (ho.block lb hlb).trans hw2.t
  have hL3 : LLies w3 H := LLies.only (w := w2.drew) hw2.h ho (fun k y hy => hw2.m.ne (hw2.h k y hy))
  have hK4 : Kp (fun k => k = lb ∨ k = mb ∨ k ∈ blsL (pre ++ (x, b) :: post)) w w3 := (hK3.drew.mono (fun _ _ h => h.elim)).trans2 (ho.kp (S := fun k => k = mb) rfl) (fun j _ e => .inr (.inl e))
  have hlen : (pre ++ (x, b) :: post).length - 1 = (pre ++ post).length := by simp
  rw [hlen] at hM3
  obtain ⟨hc1, hcb, hc2⟩ := chain_parts hw2.c
  have hnd := Lib.hid hw2.nd
  clear ho hw2 hK3 hbx2 p0 p1 c0 hlen
  have x2 := (hL3 b _ hcb).c2
  have x3 := (hL3 b _ hcb).c3
  have hbl := hT3.ne (hL3 b _ hcb)
  have cf := hT3.fz
  obtain ⟨n1, n2, n3, n4⟩ := nodup_mid hnd.out
  have l1 := hT3.c1
  have l2 := hT3.c2
  obtain ⟨nx, hnx⟩ : ∃ nx, nx = hdL post .none := ⟨_, rfl⟩
  obtain ⟨pv, hpv⟩ : ∃ pv, pv = lsL pre .none := ⟨_, rfl⟩
  rw [← hnx] at hcb
  rw [← hpv] at hcb
  replace x2 : w3.cell? ⟨b, 2, .none⟩ = some (.pointer (adr nx)) := (hL3 b _ hcb).c2
  replace x3 : w3.cell? ⟨b, 3, .none⟩ = some (.pointer (adr pv)) := (hL3 b _ hcb).c3
  rcases List.eq_nil_or_concat pre with hpe | ⟨r, ⟨h0, c⟩, hpr⟩
  case' inl =>
    have hpv' : pv = .none := by rw [hpv, hpe]; rfl
    rw [hpv', adr_none] at x3
    have hnxh := Lib.hid hnx
    have d5 := Lib.hid hpv
    have hpeh := Lib.hid hpe
    clear hnx hpv hpe hpv'
    go_upto_region 8 with (fail)
    have hT4 : LsAt (w3.setCell ⟨lb, 1, .none⟩ (.pointer (adr nx))) lb mb (hdL (pre ++ post) .none) (lsL (pre ++ (x, b) :: post) .none) := by
      rw [hpeh.out] at hT3 ⊢
      have := hT3.setF nx
      rw [hnxh.out] at this ⊢
      exact this
    have hL4 : LLies (w3.setCell ⟨lb, 1, .none⟩ (.pointer (adr nx))) H := hL3.other _ _ _ (fun k y hy => hT3.ne (hL3 k y hy))
    have hM4 := hM3.setCell lb 1 (.pointer (adr nx)) hlb
    have hK5 := hK4.setCell lb 1 (.pointer (adr nx)) (.inl rfl)
    obtain ⟨H4, hH4⟩ : ∃ H4, H4 = H := ⟨_, rfl⟩
    have d0 : H4 b = some ⟨x.s, x.g, nx, pv⟩ := by rw [hH4]; exact hcb
    have d1 : Chain H4 .none pre (hdL post .none) := by rw [hpeh.out]; trivial
    have d2 : Chain H4 (some b) post .none := by rw [hH4]; exact hc2
    have d4 : ∀ k, (H4 k).isSome = (H k).isSome := fun k => by rw [hH4]
    rw [← hH4] at hL4
    generalize w3.setCell ⟨lb, 1, .none⟩ (.pointer (adr nx)) = w4 at hT4 hL4 hM4 hK5 ⊢
    clear hH4 x2 x3 l1 l2 cf hT3 hL3 hM3 hK4 hcb hc1 hc2
  case' inr =>
    have hpre : pre = r ++ [(h0, c)] := by simpa using hpr
    have hpvc : pv = some c := by rw [hpv, hpre]; simp [lsL_append, lsL]
    have hcn : c ∉ blsL r := by
      have := hnd.out
      rw [hpre] at this
      simp only [blsL, List.append_assoc, List.map_append, List.cons_append, List.map_cons, List.nil_append] at this ⊢
      rw [List.nodup_append] at this
      exact fun hm => this.2.2 c hm c (by simp) rfl
    have hcp : c ∉ blsL post := n4 c (by rw [hpre]; simp [blsL])
    have hcb' : b ≠ c := fun e => n1 (by rw [hpre, e]; simp [blsL])
    have hcall : c ∈ blsL (pre ++ (x, b) :: post) := by rw [hpre]; simp [blsL]
    have hhd : hdL (pre ++ (x, b) :: post) .none = hdL (pre ++ post) .none := by rw [hpre]; cases r <;> rfl
    have hc1' := hc1
    rw [hpre] at hc1'
    obtain ⟨_, hcc, _⟩ := (chain_append _ _ _ _).1 hc1'
    rw [hpvc, adr_some] at x3
    have hLc := hL3 c _ hcc
    have hclb := hT3.ne hLc
    have y2 := hLc.c2
    have yf := hLc.fz
    have d1 : Chain (updL H c (·.setBk nx)) .none pre (hdL post .none) := by rw [← hnx, hpre]; exact chain_setLast (x := (h0, c)) hc1' hcn
    have d5 := Lib.hid hpv
    have hnxh := Lib.hid hnx
    clear hnx hpv hpre hpr hpvc hcc hc1'
    go_upto_region 7 with (fail)
    go_region
    go_upto_region 8 with (fail)
    have hT4 : LsAt ((w3.setCell ⟨c, 2, .none⟩ (.pointer (adr nx))).drew) lb mb (hdL (pre ++ post) .none) (lsL (pre ++ (x, b) :: post) .none) := by
      have := hT3.other c 2 (.pointer (adr nx)) hclb
      rw [hhd] at this
      exact this
    have hL4 : LLies ((w3.setCell ⟨c, 2, .none⟩ (.pointer (adr nx))).drew) (updL H c (·.setBk nx)) := hL3.bk c nx
    have hM4 : MapL ((w3.setCell ⟨c, 2, .none⟩ (.pointer (adr nx))).drew) mb _ _ := hM3.setCell c 2 (.pointer (adr nx)) (hM3.ne hLc)
    have hK5 := (hK4.setCell c 2 (.pointer (adr nx)) (.inr (.inr hcall))).drew
    have d0 : updL H c (·.setBk nx) b = some ⟨x.s, x.g, nx, pv⟩ := by rw [updL_other _ _ _ _ hcb']; exact hcb
    have d2 : Chain (updL H c (·.setBk nx)) (some b) post .none := chain_congr (fun k hk => updL_other _ _ _ _ (fun e => hcp (e ▸ hk))) hc2
    have d4 : ∀ k, (updL H c (·.setBk nx) k).isSome = (H k).isSome := fun k => updL_dom _ _ _ _
    generalize (w3.setCell ⟨c, 2, .none⟩ (.pointer (adr nx))).drew = w4 at hT4 hL4 hM4 hK5 ⊢
    generalize updL H c (·.setBk nx) = H4 at hL4 d0 d1 d2 d4
    clear x2 x3 l1 l2 cf hT3 hL3 hM3 hK4 hcb hc1 hc2 hLc y2 yf hhd hcall hcb' hcp hcn hclb
  all_goals
    have hb4 := hL4 b _ d0
    have x2 := hb4.c2
    have x3 := hb4.c3
    have l1 := hT4.c1
    have l2 := hT4.c2
    have cf := hT4.fz
    have hb4l := hT4.ne hb4
    cases post with
    | nil =>
      rw [hnxh.out, show hdL [] .none = Option.none (α := Nat) from rfl, adr_none] at x2
      go_wp2_with fail
      go_ret
      refine ⟨rfl, ⟨_, _, lw_cut hw (w' := w4.setCell ⟨lb, 2, .none⟩ (.pointer (adr pv))) ?_ (hL4.other lb 2 _ (fun k y hy => hT4.ne (hL4 k y hy))) (hM4.setCell lb 2 _ hlb) (chain_cut hw.c hw.nd d1 trivial) d4⟩, hK5.setCell lb 2 _ (.inl rfl)⟩
      have := hT4.setL pv
      rw [d5.out] at this ⊢
      rw [List.append_nil] at this ⊢
      exact this
    | cons a r' =>
      obtain ⟨hs, d⟩ := a
      rw [hnxh.out, show hdL ((hs, d) :: r') .none = some d from rfl, adr_some] at x2
      have hdd := hL4 d _ d2.1
      have z3 := hdd.c3
      have zf := hdd.fz
      have hdl := hT4.ne hdd
      have hdn : d ∉ blsL r' := by
        have := hnd.out
        simp only [blsL, List.map_append, List.map_cons] at this ⊢
        rw [List.nodup_append] at this
        have h5 := (List.nodup_cons.1 this.2.1).2
        exact (List.nodup_cons.1 h5).1
      have hdall : d ∈ blsL (pre ++ (x, b) :: (hs, d) :: r') := by simp [blsL]
      have hdp : d ∉ blsL pre := fun hm => n4 d hm (by simp [blsL])
      go_wp2_with fail
      go_region
      go_wp2_with fail
      go_ret
      refine ⟨rfl, ⟨_, _, lw_cut hw (w' := (w4.setCell ⟨d, 3, .none⟩ (.pointer (adr pv))).drew) (H' := updL H4 d (·.setFr pv)) ?_ (hL4.fr d pv) (hM4.setCell d 3 _ (hM4.ne hdd)) (chain_cut hw.c hw.nd (chain_congr (fun k hk => updL_other _ _ _ _ (fun e => hdp (e ▸ hk))) d1) ?_) (fun k => by rw [updL_dom, d4])⟩, (hK5.setCell d 3 _ (.inr (.inr hdall))).drew⟩
      · have := hT4.other d 3 (.pointer (adr pv)) hdl
        rw [show lsL (pre ++ (x, b) :: (hs, d) :: r') .none = lsL (pre ++ (hs, d) :: r') .none from by simp [lsL_append, lsL]] at this
        exact this
      · have := chain_setHead (x := (hs, d)) (p' := pv) d2 hdn
        rw [d5.out] at this ⊢
        exact this

/-! ### The contracts -/
section
variable {w : World} {lb : Nat} {S : Nat → Prop} {L : List Hd}
/-- A list with a handle more at an end. -/
def pushList (L : List Hd) (x : Hd) (front : Bool) : List Hd := if front then x :: L else L ++ [x]
theorem list_push (h : ListAt w lb S L) (x : Hd) (hx : x.ok) (front : Bool) (hn : x ∉ L) :
    Calls Try.prog 56 #[.pointer (some ⟨lb, 0, .none⟩), .agg #[.int .i64 x.s, .int .u64 x.g], .bool front] w fun e w' =>
      e = .returned (.int .i64 0) ∧ ∃ S', ListAt w' lb S' (pushList L x front) ∧ Kp S w w' ∧ ∀ k, S' k → S k ∨ w.heap.size ≤ k := by
  obtain ⟨mb, H, F, l, h1, rfl, h3⟩ := h
  refine (push_ok h1 x hx (h1.look_none hn) front).mono ?_
  rintro e w' ⟨rfl, ⟨H', F', h4⟩, hk⟩
  refine ⟨rfl, _, ⟨mb, H', F', _, h4, ?_, fun k => Iff.rfl⟩, hk.mono (fun k _ h => (h3 k).2 h), fun k hk' => ?_⟩
  · cases front <;> simp [pushList, hsL]
  · rcases hk' with h | h | h
    · exact .inl ((h3 k).2 (.inl h))
    · exact .inl ((h3 k).2 (.inr (.inl h)))
    · have : k = w.heap.size + 1 ∨ k ∈ blsL l := by
        cases front
        · simp [blsL] at h ⊢
          rcases h with h | h
          · exact .inr h
          · exact .inl h
        · simp [blsL] at h ⊢
          exact h
      rcases this with h | h
      · exact .inr (by omega)
      · exact .inl ((h3 k).2 (.inr (.inr h)))
theorem list_push_there (h : ListAt w lb S L) (x : Hd) (hx : x.ok) (front : Bool) (hn : x ∈ L) :
    Calls Try.prog 56 #[.pointer (some ⟨lb, 0, .none⟩), .agg #[.int .i64 x.s, .int .u64 x.g], .bool front] w fun e w' => e = .returned (.int .i64 7) ∧ Kp (fun _ => False) w w' := by
  obtain ⟨mb, H, F, l, h1, rfl, h3⟩ := h
  obtain ⟨b, pre, post, hF, _⟩ := h1.look_some hn
  exact push_there h1 x hx b hF front
theorem list_remove_out (h : ListAt w lb S L) (x : Hd) (hx : x.ok) (hn : x ∉ L) :
    Calls Try.prog 61 #[.pointer (some ⟨lb, 0, .none⟩), .agg #[.int .i64 x.s, .int .u64 x.g]] w fun e w' => e = .returned (.bool false) ∧ Kp (fun _ => False) w w' := by
  obtain ⟨mb, H, F, l, h1, rfl, h3⟩ := h
  exact lremove_out h1 x hx (h1.look_none hn)
theorem list_remove {pre post : List Hd} {x : Hd} (h : ListAt w lb S (pre ++ x :: post)) :
    Calls Try.prog 61 #[.pointer (some ⟨lb, 0, .none⟩), .agg #[.int .i64 x.s, .int .u64 x.g]] w fun e w' =>
      e = .returned (.bool true) ∧ ∃ S', ListAt w' lb S' (pre ++ post) ∧ Kp S w w' ∧ ∀ k, S' k → S k := by
  have hx := h.ok x (by simp)
  obtain ⟨mb, H, F, l, h1, he, h3⟩ := h
  obtain ⟨pl, r, rfl, h5, h6⟩ := List.map_eq_append_iff.1 he
  obtain ⟨a, ql, rfl, h7, h8⟩ := List.map_eq_cons_iff.1 h6
  obtain ⟨x', b⟩ := a
  cases h7
  refine (lremove_ok h1 hx).mono ?_
  rintro e w' ⟨rfl, ⟨H', F', h4⟩, hk⟩
  refine ⟨rfl, _, ⟨mb, H', F', _, h4, by rw [hsL, List.map_append, h5, h8], fun k => Iff.rfl⟩, hk.mono (fun k _ h => (h3 k).2 h), fun k hk' => (h3 k).2 ?_⟩
  rcases hk' with h | h | h
  · exact .inl h
  · exact .inr (.inl h)
  · refine .inr (.inr ?_)
    simp only [blsL, List.map_append, List.map_cons, List.mem_append, List.mem_cons] at h ⊢
    rcases h with h | h
    · exact .inl h
    · exact .inr (.inr h)
end

/-! ### Pop -/
set_option maxRecDepth 100000 in
set_option maxHeartbeats 1000000 in
theorem pop_nil (w : World) (front : Bool) :
    Calls Try.prog 59 #[.pointer .none, .bool front] w fun e w' => e = .returned (.tuple #[.agg #[.int .i64 0, .int .u64 0], .bool false]) ∧ Kp (fun _ => False) w w' := by
  have hK1 : Kp (fun _ => False) w (w.alloc (.cells #[.int .i64 0, .int .u64 0] 34)) := (Kp.refl _ _).alloc _
  have hb1 : HBox (w.alloc (.cells #[.int .i64 0, .int .u64 0] 34)) w.heap.size ⟨0, 0⟩ := heap_alloc_new _ _
  go_enter Try.func59, Try.ntmps59
  go_wp2_with fail
  refine (peek_nil _ front).mono ?_
  rintro e w1 ⟨rfl, hk⟩
  have hb2 := hb1.kp hk (fun h => h)
  have hK2 := hK1.trans hk
  have q0 := hb2.c0
  have q1 := hb2.c1
  have qf := hb2.fz
  have ql := hb2.lt
  go_wp2_with fail
  exact bodyPost_ret (v := .tuple #[.agg #[.int .i64 0, .int .u64 0], .bool false]) (by simp [results, Try.results59, go_sem, q0, q1, ql]) rfl ⟨rfl, ((hK2.setNew _ _ _ (Nat.le_refl _)).setNew _ _ _ (Nat.le_refl _)).alloc _⟩
set_option maxRecDepth 100000 in
set_option maxHeartbeats 1000000 in
theorem pop_none {w : World} {lb : Nat} {S : Nat → Prop} (h : ListAt w lb S []) (front : Bool) :
    Calls Try.prog 59 #[.pointer (some ⟨lb, 0, .none⟩), .bool front] w fun e w' => e = .returned (.tuple #[.agg #[.int .i64 0, .int .u64 0], .bool false]) ∧ Kp (fun _ => False) w w' := by
  have hK1 : Kp (fun _ => False) w (w.alloc (.cells #[.int .i64 0, .int .u64 0] 34)) := (Kp.refl _ _).alloc _
  have hb1 : HBox (w.alloc (.cells #[.int .i64 0, .int .u64 0] 34)) w.heap.size ⟨0, 0⟩ := heap_alloc_new _ _
  have hp : pkv [] front = .tuple #[.agg #[.int .i64 0, .int .u64 0], .bool false] := by cases front <;> rfl
  go_enter Try.func59, Try.ntmps59
  go_wp2_with fail
  refine (list_peek (h.kp0 hK1) front).mono ?_
  rintro e w1 ⟨rfl, hk⟩
  rw [hp]
  have hb2 := hb1.kp hk (fun h => h)
  have hK2 := hK1.trans hk
  have q0 := hb2.c0
  have q1 := hb2.c1
  have qf := hb2.fz
  have ql := hb2.lt
  go_wp2_with fail
  exact bodyPost_ret (v := .tuple #[.agg #[.int .i64 0, .int .u64 0], .bool false]) (by simp [results, Try.results59, go_sem, q0, q1, ql]) rfl ⟨rfl, ((hK2.setNew _ _ _ (Nat.le_refl _)).setNew _ _ _ (Nat.le_refl _)).alloc _⟩

/-- What Pop leaves of a list that has a handle at that end. -/
def PopPost (w : World) (lb : Nat) (S : Nat → Prop) (L : List Hd) (w' : World) : Prop := ∃ S', ListAt w' lb S' L ∧ Kp S w w' ∧ ∀ k, S' k → S k
set_option maxRecDepth 100000 in
set_option maxHeartbeats 1000000 in
theorem pop_some {w : World} {lb : Nat} {S : Nat → Prop} {pre post : List Hd} {x : Hd} (h : ListAt w lb S (pre ++ x :: post)) (front : Bool) (hx : endOf (pre ++ x :: post) front = some x) :
    Calls Try.prog 59 #[.pointer (some ⟨lb, 0, .none⟩), .bool front] w fun e w' => e = .returned (.tuple #[.agg #[.int .i64 x.s, .int .u64 x.g], .bool true]) ∧ PopPost w lb S (pre ++ post) w' := by
  have hK1 : Kp (fun _ => False) w (w.alloc (.cells #[.int .i64 0, .int .u64 0] 34)) := (Kp.refl _ _).alloc _
  have hb1 : HBox (w.alloc (.cells #[.int .i64 0, .int .u64 0] 34)) w.heap.size ⟨0, 0⟩ := heap_alloc_new _ _
  have hp : pkv (pre ++ x :: post) front = .tuple #[.agg #[.int .i64 x.s, .int .u64 x.g], .bool true] := by unfold pkv; rw [hx]
  go_enter Try.func59, Try.ntmps59
  go_wp2_with fail
  refine (list_peek (h.kp0 hK1) front).mono ?_
  rintro e w1 ⟨rfl, hk⟩
  rw [hp]
  have hb2 := hb1.kp hk (fun h => h)
  have hK2 := hK1.trans hk
  have hl2 := h.kp0 hK2
  go_wp2_with fail
  have hK3 : Kp (fun _ => False) w1 (w1.alloc (.cells #[.int .i64 x.s, .int .u64 x.g] 34)) := (Kp.refl _ _).alloc _
  have hbx : HBox (w1.alloc (.cells #[.int .i64 x.s, .int .u64 x.g] 34)) w1.heap.size x := heap_alloc_new _ _
  refine (list_remove (hl2.kp0 hK3)).mono ?_
  rintro e w2 ⟨rfl, S', hl3, hk3, hS⟩
  have hnl : ∀ k, w.heap.size ≤ k → ¬ S k := fun k hk hs => by have := h.lt hs; omega
  have hb3 := (hb2.kp hK3 (fun h => h)).kp hk3 (hnl _ (Nat.le_refl _))
  have hbx3 := hbx.kp hk3 (hnl _ hK2.size)
  have q0 := hb3.c0
  have q1 := hb3.c1
  have qf := hb3.fz
  have ql := hb3.lt
  have x0 := hbx3.c0
  have x1 := hbx3.c1
  have hlt : w.heap.size < w1.heap.size := hb2.lt
  go_wp2_with fail
  have hK4 := ((hK2.trans hK3).mono (fun _ _ h => h.elim)).trans hk3
  refine bodyPost_ret (v := .tuple #[.agg #[.int .i64 x.s, .int .u64 x.g], .bool true]) (by simp [results, Try.results59, go_sem, q0, q1]) rfl ⟨rfl, S', ?_, (hK4.setNew _ _ _ (Nat.le_refl _)).setNew _ _ _ (Nat.le_refl _), hS⟩
  have hk5 : Kp (fun k => k = w.heap.size) w2 ((w2.setCell ⟨w.heap.size, 0, .none⟩ (.int .i64 x.s)).setCell ⟨w.heap.size, 1, .none⟩ (.int .u64 x.g)) := ((Kp.refl (fun k => k = w.heap.size) w2).setCell _ _ _ rfl).setCell _ _ _ rfl
  exact hl3.kp hk5 (fun k hs e => hnl k (by omega) (hS k hs))
end Go.Proofs.Ytimhbnlgambcaaa
