/- The walks of Has, end, Peek, Push of a list. -/
import Derived.Test.YtimhbnlgambcaaaNb
namespace Go.Proofs.Ytimhbnlgambcaaa
open Go.RowKit Go.BigFrame

set_option maxRecDepth 100000 in
set_option maxHeartbeats 1000000 in
theorem has_at {w : World} {lb mb : Nat} {H : LHp} {F : Hd → Option Nat} {l : LL} (h : LW w lb mb H F l) (x : Hd) (hx : x.ok) (r : Option Nat) (hr : F x = r) :
    Calls Try.prog 76 #[.pointer (some ⟨lb, 0, .none⟩), .agg #[.int .i64 x.s, .int .u64 x.g]] w fun e w' => e = .returned (.bool r.isSome) ∧ Kp (fun _ => False) w w' := by
  have c0 := h.t.c0
  have tl := h.t.lt
  have hlk := fun o k => (h.m.alloc (w := w) o).look x hx r hr k
  cases r with
  | none =>
    simp only [adr_none] at hlk
    go_enter Try.func76, Try.ntmps76
    go_wp2_with fail
    go_quiet (fail)
    go_wp2_with fail
    go_ret
    exact ⟨rfl, ((Kp.refl _ _).alloc _).drewN _⟩
  | some b =>
    simp only [adr_some] at hlk
    go_enter Try.func76, Try.ntmps76
    go_wp2_with fail
    go_quiet (fail)
    go_wp2_with fail
    go_ret
    exact ⟨rfl, ((Kp.refl _ _).alloc _).drewN _⟩

set_option maxRecDepth 100000 in
set_option maxHeartbeats 1000000 in
theorem end_at {w : World} {lb mb : Nat} {f l : Option Nat} (h : LsAt w lb mb f l) (front : Bool) :
    Calls Try.prog 83 #[.pointer (some ⟨lb, 0, .none⟩), .bool front] w fun e w' => e = .returned (.pointer (adr (if front then f else l))) ∧ w = w' := by
  have c1 := h.c1
  have c2 := h.c2
  cases front
  all_goals
    go_enter Try.func83, Try.ntmps83
    go_wp2_with fail
    go_ret
    exact ⟨rfl, rfl⟩
theorem end_nil (w : World) (front : Bool) : Calls Try.prog 83 #[.pointer .none, .bool front] w fun e w' => e = .returned (.pointer .none) ∧ w = w' := by
  go_enter Try.func83, Try.ntmps83
  go_wp2_with fail
  go_ret
  exact ⟨rfl, rfl⟩

/-- The handle at an end; and whether there is one. -/
def endOf (L : List Hd) (front : Bool) : Option Hd := if front then L.head? else L.getLast?

theorem end_ptr (l : LL) (front : Bool) : (l = [] ∧ (if front then hdL l .none else lsL l .none) = .none ∧ endOf (hsL l) front = .none) ∨
    ∃ x b, (x, b) ∈ l ∧ (if front then hdL l .none else lsL l .none) = some b ∧ endOf (hsL l) front = some x := by
  cases front with
  | true =>
    cases l with
    | nil => exact .inl ⟨rfl, rfl, rfl⟩
    | cons a r => exact .inr ⟨a.1, a.2, by simp, rfl, rfl⟩
  | false =>
    rcases List.eq_nil_or_concat l with rfl | ⟨r, a, rfl⟩
    · exact .inl ⟨rfl, rfl, rfl⟩
    · exact .inr ⟨a.1, a.2, by simp, by simp [lsL_append, lsL], by simp [endOf, hsL]⟩

theorem chain_mem {H : LHp} : ∀ {l : LL} {p q : Option Nat}, Chain H p l q → ∀ {x : Hd} {b : Nat}, (x, b) ∈ l → ∃ k f, H b = some ⟨x.s, x.g, k, f⟩
  | a :: l, p, q, ⟨h1, h2⟩, x, b, hm => by
    rcases List.mem_cons.1 hm with rfl | hm
    · exact ⟨_, _, h1⟩
    · exact chain_mem h2 hm

set_option maxRecDepth 100000 in
set_option maxHeartbeats 1000000 in
theorem peek_some {w : World} {lb mb : Nat} {H : LHp} {F : Hd → Option Nat} {l : LL} (h : LW w lb mb H F l) (front : Bool) (x : Hd) (hx : endOf (hsL l) front = some x) :
    Calls Try.prog 71 #[.pointer (some ⟨lb, 0, .none⟩), .bool front] w fun e w' => e = .returned (.tuple #[.agg #[.int .i64 x.s, .int .u64 x.g], .bool true]) ∧ Kp (fun _ => False) w w' := by
  rcases end_ptr l front with ⟨_, _, e⟩ | ⟨y, b, hm, hp, e⟩
  · rw [hx] at e; cases e
  rw [hx] at e
  cases e
  obtain ⟨k, f, hb⟩ := chain_mem h.c hm
  have c0 := (h.h b _ hb).c0
  have c1 := (h.h b _ hb).c1
  have cl := (h.h b _ hb).lt
  have hpe := Lib.hid hp
  clear hp hx
  go_enter Try.func71, Try.ntmps71
  go_wp2_with fail
  refine (end_at ((Below.heap_alloc _ _ _ h.t.lt).trans h.t) front).mono ?_
  rintro e w1 ⟨rfl, rfl⟩
  rw [hpe.out, adr_some]
  go_wp2_with fail
  exact bodyPost_ret (v := .tuple #[.agg #[.int .i64 x.s, .int .u64 x.g], .bool true]) (by simp [results, Try.results71, go_sem]) rfl ⟨rfl, (Kp.refl _ _).alloc _⟩
set_option maxRecDepth 100000 in
set_option maxHeartbeats 1000000 in
theorem peek_none {w : World} {lb mb : Nat} {H : LHp} {F : Hd → Option Nat} (h : LW w lb mb H F []) (front : Bool) :
    Calls Try.prog 71 #[.pointer (some ⟨lb, 0, .none⟩), .bool front] w fun e w' => e = .returned (.tuple #[.agg #[.int .i64 0, .int .u64 0], .bool false]) ∧ Kp (fun _ => False) w w' := by
  go_enter Try.func71, Try.ntmps71
  go_wp2_with fail
  refine (end_at ((Below.heap_alloc _ _ _ h.t.lt).trans h.t) front).mono ?_
  rintro e w1 ⟨rfl, rfl⟩
  have hp : (if front = true then hdL [] .none else lsL [] .none) = .none := by cases front <;> rfl
  rw [hp, adr_none]
  go_wp2_with fail
  exact bodyPost_ret (v := .tuple #[.agg #[.int .i64 0, .int .u64 0], .bool false]) (by simp [results, Try.results71, go_sem]) rfl ⟨rfl, (Kp.refl _ _).alloc _⟩
set_option maxRecDepth 100000 in
set_option maxHeartbeats 1000000 in
theorem peek_nil (w : World) (front : Bool) :
    Calls Try.prog 71 #[.pointer .none, .bool front] w fun e w' => e = .returned (.tuple #[.agg #[.int .i64 0, .int .u64 0], .bool false]) ∧ Kp (fun _ => False) w w' := by
  go_enter Try.func71, Try.ntmps71
  go_wp2_with fail
  refine (end_nil _ front).mono ?_
  rintro e w1 ⟨rfl, rfl⟩
  go_wp2_with fail
  exact bodyPost_ret (v := .tuple #[.agg #[.int .i64 0, .int .u64 0], .bool false]) (by simp [results, Try.results71, go_sem]) rfl ⟨rfl, (Kp.refl _ _).alloc _⟩

/-- What Peek answers. -/
def pkv (L : List Hd) (front : Bool) : Value := match endOf L front with
  | some x => .tuple #[.agg #[.int .i64 x.s, .int .u64 x.g], .bool true]
  | .none => .tuple #[.agg #[.int .i64 0, .int .u64 0], .bool false]
theorem list_peek {w : World} {lb : Nat} {S : Nat → Prop} {L : List Hd} (h : ListAt w lb S L) (front : Bool) :
    Calls Try.prog 71 #[.pointer (some ⟨lb, 0, .none⟩), .bool front] w fun e w' => e = .returned (pkv L front) ∧ Kp (fun _ => False) w w' := by
  obtain ⟨mb, H, F, l, h1, rfl, h3⟩ := h
  unfold pkv
  cases e : endOf (hsL l) front with
  | some x => exact peek_some h1 front x e
  | none =>
    obtain rfl : l = [] := by
      rcases end_ptr l front with ⟨rfl, _⟩ | ⟨x, b, _, _, e'⟩
      · rfl
      · rw [e] at e'; cases e'
    exact peek_none h1 front

/-! ### Push -/
theorem lw_push {w w' : World} {lb mb b : Nat} {H H' : LHp} {F : Hd → Option Nat} {l l' : LL} {x : Hd} (h : LW w lb mb H F l) (hx : x.ok) (hF : F x = .none) (hb : b ∉ blsL l) (hl : l' = (x, b) :: l ∨ l' = l ++ [(x, b)])
    (t : LsAt w' lb mb (hdL l' .none) (lsL l' .none)) (hh : LLies w' H') (m : MapL w' mb (l.length + 1) (fput F x b)) (c : Chain H' .none l' .none) (dom : ∀ k, (H' k).isSome = true ↔ k = b ∨ (H k).isSome = true) :
    LW w' lb mb H' (fput F x b) l' := by
  have hm : ∀ p, p ∈ l' ↔ p = (x, b) ∨ p ∈ l := by
    intro p
    rcases hl with rfl | rfl
    · simp
    · simp [or_comm]
  have hxn : x ∉ hsL l := fun hm => by
    obtain ⟨b', _, _, e, _⟩ := h.look_some hm
    rw [hF] at e
    cases e
  have hlen : l'.length = l.length + 1 := by rcases hl with rfl | rfl <;> simp
  refine ⟨t, hh, hlen ▸ m, c, ?_, ?_, ?_, ?_, ?_⟩
  · rcases hl with rfl | rfl
    · exact List.nodup_cons.2 ⟨hb, h.nd⟩
    · simp only [blsL, List.map_append, List.map_cons, List.map_nil]
      rw [List.nodup_append]
      exact ⟨h.nd, by simp, fun a ha c hc e => by simp at hc; subst e hc; exact hb ha⟩
  · rcases hl with rfl | rfl
    · exact List.nodup_cons.2 ⟨hxn, h.hn⟩
    · simp only [hsL, List.map_append, List.map_cons, List.map_nil]
      rw [List.nodup_append]
      exact ⟨h.hn, by simp, fun a ha c hc e => by simp at hc; subst e hc; exact hxn ha⟩
  · intro y b'
    rw [hm]
    unfold fput
    by_cases e : y = x
    · subst e
      rw [if_pos rfl]
      constructor
      · intro e; cases e; exact .inl rfl
      · rintro (e | e)
        · cases e; rfl
        · exact absurd (List.mem_map.2 ⟨_, e, rfl⟩) hxn
    · rw [if_neg e, h.f]
      constructor
      · exact .inr
      · rintro (e' | e')
        · cases e'; exact absurd rfl e
        · exact e'
  · intro y hy
    obtain ⟨p, hp, rfl⟩ := List.mem_map.1 hy
    rcases (hm p).1 hp with rfl | hp
    · exact hx
    · exact h.ok _ (List.mem_map.2 ⟨p, hp, rfl⟩)
  · intro k
    rw [dom, h.dom]
    constructor
    · rintro (rfl | hk)
      · exact List.mem_map.2 ⟨(x, k), (hm _).2 (.inl rfl), rfl⟩
      · obtain ⟨p, hp, rfl⟩ := List.mem_map.1 hk
        exact List.mem_map.2 ⟨p, (hm _).2 (.inr hp), rfl⟩
    · intro hk
      obtain ⟨p, hp, rfl⟩ := List.mem_map.1 hk
      rcases (hm p).1 hp with rfl | hp
      · exact .inl rfl
      · exact .inr (List.mem_map.2 ⟨p, hp, rfl⟩)
theorem addL_dom (H : LHp) (b k : Nat) (x : Lk) : (addL H b x k).isSome = true ↔ k = b ∨ (H k).isSome = true := by
  unfold addL; split <;> simp_all
theorem LLies.only {w w' : World} {H : LHp} {b : Nat} (h : LLies w H) (ho : Only b w w') (hb : ∀ k x, H k = some x → k ≠ b) : LLies w' H := fun k x hx => (ho.block k (hb k x hx)).trans (h k x hx)
set_option maxRecDepth 100000 in
set_option maxHeartbeats 1000000 in
theorem push_there {w : World} {lb mb : Nat} {H : LHp} {F : Hd → Option Nat} {l : LL} (h : LW w lb mb H F l) (x : Hd) (hx : x.ok) (b : Nat) (hF : F x = some b) (front : Bool) :
    Calls Try.prog 56 #[.pointer (some ⟨lb, 0, .none⟩), .agg #[.int .i64 x.s, .int .u64 x.g], .bool front] w fun e w' => e = .returned (.int .i64 7) ∧ Kp (fun _ => False) w w' := by
  have c0 := h.t.c0
  have tl := h.t.lt
  have qm := fun (w : World) => run_eql_map_nil (P := Try.prog) w 133 34 134 (some mb) Try.underlying133
  have hlk := fun o k => (h.m.alloc (w := w) o).look x hx (some b) hF k
  simp only [adr_some] at hlk
  go_enter Try.func56, Try.ntmps56
  go_wp2_with fail
  go_quiet (fail)
  go_wp2_with fail
  refine bodyPost_ret (results_tmp rfl _ _ _) rfl ?_
  exact ⟨rfl, ((Kp.refl _ _).alloc _).drewN _⟩

/-- What Push leaves. -/
def PushPost (w : World) (lb mb : Nat) (l : LL) (x : Hd) (front : Bool) (w' : World) : Prop :=
  (∃ H' F', LW w' lb mb H' F' (if front then (x, w.heap.size + 1) :: l else l ++ [(x, w.heap.size + 1)])) ∧ Kp (fun k => k = lb ∨ k = mb ∨ k ∈ blsL l) w w'
set_option maxRecDepth 100000 in
set_option maxHeartbeats 2000000 in
theorem push_ok {w : World} {lb mb : Nat} {H : LHp} {F : Hd → Option Nat} {l : LL} (hw : LW w lb mb H F l) (x : Hd) (hx : x.ok) (hF : F x = .none) (front : Bool) :
    Calls Try.prog 56 #[.pointer (some ⟨lb, 0, .none⟩), .agg #[.int .i64 x.s, .int .u64 x.g], .bool front] w fun e w' => e = .returned (.int .i64 0) ∧ PushPost w lb mb l x front w' := by
  have c0 := hw.t.c0
  have tl := hw.t.lt
  have qm := fun (w : World) => run_eql_map_nil (P := Try.prog) w 133 34 134 (some mb) Try.underlying133
  have hlk := fun o k => (hw.m.alloc (w := w) o).look x hx .none hF k
  simp only [adr_none] at hlk
  go_enter Try.func56, Try.ntmps56
  go_wp2_with fail
  go_quiet (fail)
  go_wp2_with fail
  have hx1 : w.heap.size + 1 = ((w.alloc (.cells #[.int .i64 x.s, .int .u64 x.g] 34)).drewN nq).heap.size := by simp
  have hK1 : Kp (fun _ => False) w ((w.alloc (.cells #[.int .i64 x.s, .int .u64 x.g] 34)).drewN nq) := ((Kp.refl _ _).alloc _).drewN nq
  have hK2 : Kp (fun _ => False) w (((w.alloc (.cells #[.int .i64 x.s, .int .u64 x.g] 34)).drewN nq).alloc (.cells #[.int .i64 x.s, .int .u64 x.g, .pointer .none, .pointer .none] 138)) := hK1.alloc _
  have hT2 := (hK2.block lb hw.t.lt (fun h => h)).trans hw.t
  have hL2 := (hw.h.kp0 hK1).add ⟨x.s, x.g, .none, .none⟩ _ hx1
  have hM2 := hw.m.kp hK2 (fun h => h)
  have hc2 : HBox (((w.alloc (.cells #[.int .i64 x.s, .int .u64 x.g] 34)).drewN nq).alloc (.cells #[.int .i64 x.s, .int .u64 x.g, .pointer .none, .pointer .none] 138)) w.heap.size x :=
    (Below.heap_alloc _ _ _ (by simp)).trans (heap_alloc_new w _)
  have hs2 : (((w.alloc (.cells #[.int .i64 x.s, .int .u64 x.g] 34)).drewN nq).alloc (.cells #[.int .i64 x.s, .int .u64 x.g, .pointer .none, .pointer .none] 138)).heap.size = w.heap.size + 2 := by simp
  simp only [Lk.cells, adr_none] at hL2
  generalize hW : (((w.alloc (.cells #[.int .i64 x.s, .int .u64 x.g] 34)).drewN nq).alloc (.cells #[.int .i64 x.s, .int .u64 x.g, .pointer .none, .pointer .none] 138)) = W at hK2 hT2 hL2 hM2 hc2 hs2 ⊢
  clear hW hK1 hx1 hlk qm c0 tl
  have hT2' : LsAt W lb mb (hdL l .none) (lsL l .none) := hT2
  clear hT2
  have c0 := hT2'.c0
  have p0 := hc2.c0
  have p1 := hc2.c1
  have hmx : w.heap.size + 1 ≠ mb := fun e => by have := hw.m.lt; omega
  have hlb : lb ≠ mb := hM2.ne hT2'
  have hxl : w.heap.size + 1 ∉ blsL l := fun hm => by have := hw.lt (.inr (.inr hm)); omega
  have hfr := Lib.hid hs2
  clear hs2
  have hdm : ∀ k y, addL H (w.heap.size + 1) ⟨x.s, x.g, .none, .none⟩ k = some y → k ≠ mb ∧ k ≠ lb := fun k y hy => ⟨hM2.ne (hL2 k y hy), hT2'.ne (hL2 k y hy)⟩
  have hcase : l = [] ∨ (front = true ∧ ∃ h0 f r, l = (h0, f) :: r) ∨ (front = false ∧ ∃ r' hl0 c, l = r' ++ [(hl0, c)]) := by
    cases l with
    | nil => exact .inl rfl
    | cons a r =>
      cases front with
      | true => exact .inr (.inl ⟨rfl, a.1, a.2, r, rfl⟩)
      | false =>
        rcases List.eq_nil_or_concat (a :: r) with h | ⟨r', a', h⟩
        · cases h
        · exact .inr (.inr ⟨rfl, r', a'.1, a'.2, by simpa using h⟩)
  rcases hcase with rfl | ⟨rfl, h0, f, r, rfl⟩ | ⟨rfl, r', hl0, c, rfl⟩
  · go_still_tail 6, (by kernel_rfl)
    go_wp2_with (at_mapUpdate; refine wpList_store_l rfl _ _ _ rfl rfl hM2 x hx (w.heap.size + 1) hF rfl rfl ?_; intro w2 hM3 ho; have hT3 : LsAt w2 lb mb .none .none := (ho.block lb hlb).trans hT2'; have c1 := hT3.c1; have c2 := hT3.c2; have cf := hT3.fz; simp only [adr_none] at c1 c2)
    · refine bodyPost_ret (results_tmp rfl _ _ _) rfl ⟨rfl, ?_, ?_⟩
      · have hL3 := ((LLies.only (w := W.drew) hL2 ho (fun k y hy => (hdm k y hy).1)).other lb 1 (.pointer (some ⟨w.heap.size + 1, 0, .none⟩)) (fun k y hy => (hdm k y hy).2)).other lb 2 (.pointer (some ⟨w.heap.size + 1, 0, .none⟩)) (fun k y hy => (hdm k y hy).2)
        have hl' : (if front = true then (x, w.heap.size + 1) :: [] else [] ++ [(x, w.heap.size + 1)]) = [(x, w.heap.size + 1)] := by cases front <;> rfl
        rw [hl']
        exact ⟨_, _, lw_push hw hx hF hxl (.inl rfl) ((hT3.setF (some (w.heap.size + 1))).setL (some (w.heap.size + 1))) hL3 ((hM3.setCell _ _ _ hlb).setCell _ _ _ hlb) ⟨by simp [addL, hdL], trivial⟩ (fun k => addL_dom _ _ _ _)⟩
      · exact (((hK2.drew.mono (fun _ _ h => h.elim)).trans2 (ho.kp (S := fun k => k = mb) rfl) (fun j _ e => .inr (.inl e))).setCell lb 1 _ (.inl rfl)).setCell lb 2 _ (.inl rfl)
  · · have hxf : w.heap.size + 1 ≠ f := fun e => hxl (by simp [blsL, e])
      have hfl : f < w.heap.size := hw.lt (.inr (.inr (by simp [blsL])))
      obtain ⟨cf1, _⟩ := hw.c
      go_still_tail 6, (by kernel_rfl)
      go_wp2_with (at_mapUpdate; refine wpList_store_l rfl _ _ _ rfl rfl hM2 x hx (w.heap.size + 1) hF rfl rfl ?_; intro w2 hM3 ho; have hT3 : LsAt w2 lb mb (some f) (lsL ((h0, f) :: r) .none) := (ho.block lb hlb).trans hT2'; have c1 := hT3.c1; have c2 := hT3.c2; have cf := hT3.fz; simp only [adr_some] at c1)
      have hL3 := LLies.only (w := W.drew) hL2 ho (fun k y hy => (hdm k y hy).1)
      have hX := hL3 (w.heap.size + 1) _ (by simp [addL]; rfl)
      have hf := hL3 f ⟨h0.s, h0.g, hdL r .none, .none⟩ (by unfold addL; rw [if_neg (fun e => hxf e.symm)]; exact cf1)
      have x2 := hX.c2
      have xf := hX.fz
      have f3 := hf.c3
      have ff := hf.fz
      go_region
      go_wp2
      refine bodyPost_ret (results_tmp rfl _ _ _) rfl ⟨rfl, ?_, ?_⟩
      · have hL4 := (((LLies.bk (w := w2.drew) hL3 (w.heap.size + 1) (some f)).fr f (some (w.heap.size + 1))).other lb 1 (.pointer (some ⟨w.heap.size + 1, 0, .none⟩)) (fun k y hy => ?_))
        · refine ⟨_, _, lw_push hw hx hF hxl (.inl rfl) (((hT3.other _ _ _ (hT3.ne hX)).other _ _ _ (hT3.ne hf)).setF (some (w.heap.size + 1))) hL4 (((hM3.setCell _ _ _ hmx).setCell _ _ _ (hM3.ne hf)).setCell _ _ _ hlb) ?_ (fun k => ?_)⟩
          · refine chain_congr (fun b _ => ?_) (chain_front (h := x) hw.c hw.nd hxl)
            simp only [updL, addL]
            by_cases e : b = w.heap.size + 1
            · subst e
              simp [hxf, Lk.setBk]
            · simp [e]
          · rw [updL_dom, updL_dom, addL_dom]
        · have : (addL H (w.heap.size + 1) ⟨x.s, x.g, .none, .none⟩ k).isSome = true := by rw [← updL_dom, ← updL_dom, hy]; rfl
          obtain ⟨y', hy'⟩ := Option.isSome_iff_exists.1 this
          exact (hdm k y' hy').2
      · exact ((((hK2.drew.mono (fun _ _ h => h.elim)).trans2 (ho.kp (S := fun k => k = mb) rfl) (fun j _ e => .inr (.inl e))).drew.setNew _ _ _ (by omega)).setCell f 3 _ (.inr (.inr (by simp [blsL])))).setCell lb 1 _ (.inl rfl)
  · · have hxc : w.heap.size + 1 ≠ c := fun e => hxl (by simp [blsL, e])
      have hcl : c < w.heap.size := hw.lt (.inr (.inr (by simp [blsL])))
      obtain ⟨_, hcc, _⟩ := (chain_append _ _ _ _).1 hw.c
      have hls : lsL (r' ++ [(hl0, c)]) .none = some c := by simp [lsL_append, lsL]
      obtain ⟨f0, hf0⟩ : ∃ f0, hdL (r' ++ [(hl0, c)]) .none = some f0 := by cases r' <;> exact ⟨_, rfl⟩
      rw [hls, hf0] at hT2'
      go_still_tail 6, (by kernel_rfl)
      go_wp2_with (at_mapUpdate; refine wpList_store_l rfl _ _ _ rfl rfl hM2 x hx (w.heap.size + 1) hF rfl rfl ?_; intro w2 hM3 ho; have hT3 : LsAt w2 lb mb (some f0) (some c) := (ho.block lb hlb).trans hT2'; have c1 := hT3.c1; have c2 := hT3.c2; have cf := hT3.fz; simp only [adr_some] at c1 c2)
      have hL3 := LLies.only (w := W.drew) hL2 ho (fun k y hy => (hdm k y hy).1)
      have hX := hL3 (w.heap.size + 1) _ (by simp [addL]; rfl)
      have hf := hL3 c ⟨hl0.s, hl0.g, .none, lsL r' .none⟩ (by unfold addL; rw [if_neg (fun e => hxc e.symm)]; exact hcc)
      have x3 := hX.c3
      have xf := hX.fz
      have f2 := hf.c2
      have ff := hf.fz
      have hlc := hT3.ne hf
      have hlc' := hlc.symm
      go_region
      go_wp2
      refine bodyPost_ret (results_tmp rfl _ _ _) rfl ⟨rfl, ?_, ?_⟩
      · have hL4 := (((LLies.fr (w := w2.drew) hL3 (w.heap.size + 1) (some c)).bk c (some (w.heap.size + 1))).other lb 2 (.pointer (some ⟨w.heap.size + 1, 0, .none⟩)) (fun k y hy => ?_))
        · have hh1 : hdL (r' ++ [(hl0, c)] ++ [(x, w.heap.size + 1)]) .none = some f0 := by rw [hdL_append]; cases r' <;> simpa [hdL] using hf0
          have hh2 : lsL (r' ++ [(hl0, c)] ++ [(x, w.heap.size + 1)]) .none = some (w.heap.size + 1) := by simp [lsL_append, lsL]
          show ∃ H' F', LW _ lb mb H' F' (r' ++ [(hl0, c)] ++ [(x, w.heap.size + 1)])
          refine ⟨_, _, lw_push hw hx hF hxl (.inr rfl) (by rw [hh1, hh2]; exact (((hT3.other _ _ _ (hT3.ne hX)).other _ _ _ (hT3.ne hf)).setL (some (w.heap.size + 1)))) hL4 (((hM3.setCell _ _ _ hmx).setCell _ _ _ (hM3.ne hf)).setCell _ _ _ hlb) ?_ (fun k => ?_)⟩
          · refine chain_congr (fun b _ => ?_) (chain_back (h := x) hw.c hw.nd hxl)
            simp only [updL, addL]
            by_cases e : b = w.heap.size + 1
            · subst e
              simp [hxc, Lk.setFr]
            · simp [e]
          · rw [updL_dom, updL_dom, addL_dom]
        · have : (addL H (w.heap.size + 1) ⟨x.s, x.g, .none, .none⟩ k).isSome = true := by rw [← updL_dom, ← updL_dom, hy]; rfl
          obtain ⟨y', hy'⟩ := Option.isSome_iff_exists.1 this
          exact (hdm k y' hy').2
      · exact ((((hK2.drew.mono (fun _ _ h => h.elim)).trans2 (ho.kp (S := fun k => k = mb) rfl) (fun j _ e => .inr (.inl e))).drew.setNew _ _ _ (by omega)).setCell c 2 _ (.inr (.inr (by simp [blsL])))).setCell lb 2 _ (.inl rfl)
end Go.Proofs.Ytimhbnlgambcaaa
