/- A graph over a base world, with blocks beside it; the walks of one and works (wardenlaw17). -/
import Derived.Test.YtimhbnlgambcaaaGo
import Derived.Test.YtimhbnlgambcaaaRb
namespace Go.Proofs.Ytimhbnlgambcaaa
open Go.RowKit Go.BigFrame

/-- Since w0 nothing old has turned; at gb lies the graph g; the blocks bs hold what they hold, beside it. -/
def SG (w0 : World) (gb : Nat) (g : GS) (bs : List (Nat × Obj)) (w : World) : Prop :=
  ∃ S, GraphAt w gb S g ∧ (∀ k, S k → w0.heap.size ≤ k) ∧ Below w0.heap.size w0 w ∧ ∀ q ∈ bs, OBox w q.1 q.2 ∧ ¬ S q.1
def emptyG : GS := ⟨fun _ => .none, fun _ => .none, fun _ => .none⟩
section
variable {w0 w w' : World} {gb : Nat} {g g' : GS} {bs : List (Nat × Obj)}
theorem SG.kp (h : SG w0 gb g bs w) (hk : Kp (fun _ => False) w w') : SG w0 gb g bs w' := by
  obtain ⟨S, h1, h2, h3, h4⟩ := h
  exact ⟨S, h1.kp0 hk, h2, h3.trans (hk.below h3.size (fun _ h => h.elim)), fun q hq => ⟨(h4 q hq).1.kp hk (fun h => h), (h4 q hq).2⟩⟩
theorem SG.drew (h : SG w0 gb g bs w) : SG w0 gb g bs w.drew := h.kp (Kp.refl _ _).drew
theorem SG.box (h : SG w0 gb g bs w) (o : Obj) : SG w0 gb g ((w.heap.size, o) :: bs) (w.alloc o) := by
  obtain ⟨S, h1, h2, h3, h4⟩ := h.kp (w' := w.alloc o) ((Kp.refl _ _).alloc o)
  obtain ⟨S', h1', h2', h3', h4'⟩ := h
  refine ⟨S', h1'.kp0 ((Kp.refl _ _).alloc o), h2', h3, ?_⟩
  intro q hq
  rcases List.mem_cons.1 hq with rfl | hq
  · exact ⟨heap_alloc_new _ _, fun hs => Nat.lt_irrefl _ (h1'.lt hs)⟩
  · exact ⟨(h4' q hq).1.kp (R := fun _ => False) ((Kp.refl _ _).alloc _) (fun h => h), (h4' q hq).2⟩
theorem SG.less (h : SG w0 gb g bs w) {bs' : List (Nat × Obj)} (hs : ∀ q ∈ bs', q ∈ bs) : SG w0 gb g bs' w := by
  obtain ⟨S, h1, h2, h3, h4⟩ := h
  exact ⟨S, h1, h2, h3, fun q hq => h4 q (hs q hq)⟩
theorem SG.below (h : SG w0 gb g bs w) : Below w0.heap.size w0 w := by obtain ⟨S, h1, h2, h3, h4⟩ := h; exact h3
theorem SG.obox (h : SG w0 gb g bs w) {b : Nat} {x : Obj} (hm : (b, x) ∈ bs) : OBox w b x := by obtain ⟨S, h1, h2, h3, h4⟩ := h; exact (h4 _ hm).1
theorem SG.ok (h : SG w0 gb g bs w) : GOk g := by obtain ⟨S, h1, h2, h3, h4⟩ := h; exact h1.ok
theorem SG.put (h : SG w0 gb g bs w) : ∃ S, GraphAt w gb S g ∧ ∀ w' g', PutPost w gb S g' w' → SG w0 gb g' bs w' := by
  obtain ⟨S, h1, h2, h3, h4⟩ := h
  refine ⟨S, h1, fun w' g' ⟨S', hT, hk, hS⟩ => ⟨S', hT, fun k hk' => (hS k hk').elim (h2 k) (fun h => Nat.le_trans h3.size h), h3.trans (hk.below h3.size h2), fun q hq => ⟨(h4 q hq).1.kp hk (h4 q hq).2, fun hs => ?_⟩⟩⟩
  rcases hS _ hs with h | h
  · exact (h4 q hq).2 h
  · have := (h4 q hq).1.lt
    omega

theorem sg_new (h : Below w0.heap.size w0 w) : Calls Try.prog 25 #[] w fun e w' => ∃ gb, e = .returned (.pointer (some ⟨gb, 0, .none⟩)) ∧ SG w0 gb emptyG [] w' := by
  refine (gr_new w).mono ?_
  rintro e w' ⟨gb, S, rfl, hT, hS, hk⟩
  exact ⟨gb, rfl, S, hT, fun k hk' => Nat.le_trans h.size (hS k hk'), h.trans (hk.below h.size (fun _ h => h.elim)), by simp⟩
theorem sg_push (h : SG w0 gb g bs w) (p : Plc) (hp : p.ok) (x : Hd) (hx : x.ok) (n : Int) (hn : nwf n) (front : Bool) :
    Calls Try.prog 27 #[.pointer (some ⟨gb, 0, .none⟩), .agg #[.int .i64 p.m, .int .i64 p.s, .int .i64 p.a], .agg #[.int .i64 x.s, .int .u64 x.g], .int .i64 n, .bool front] w fun e w' =>
      e = .returned (.int .i64 (pushErr g p x n)) ∧ SG w0 gb (gPush g p x n front) bs w' := by
  obtain ⟨S, hT, hf⟩ := h.put
  exact (gr_push hT p hp x hx n hn front).mono fun e w' ⟨he, h⟩ => ⟨he, hf w' _ h⟩
theorem sg_insert (h : SG w0 gb g bs w) (p : Plc) (hp : p.ok) (i : Int) (x : Hd) (hx : x.ok) (n : Int) (hn : nwf n) (small : (rowL g p).length < 1000000) :
    Calls Try.prog 28 #[.pointer (some ⟨gb, 0, .none⟩), .agg #[.int .i64 p.m, .int .i64 p.s, .int .i64 p.a], .int .i64 i, .agg #[.int .i64 x.s, .int .u64 x.g], .int .i64 n] w fun e w' =>
      e = .returned (.int .i64 (gInsErr g p i x n)) ∧ SG w0 gb (gIns g p i x n) bs w' := by
  obtain ⟨S, hT, hf⟩ := h.put
  exact (gr_insert hT p hp i x hx n hn small).mono fun e w' ⟨he, h⟩ => ⟨he, hf w' _ h⟩
theorem sg_pop (h : SG w0 gb g bs w) (p : Plc) (hp : p.ok) (front : Bool) :
    Calls Try.prog 29 #[.pointer (some ⟨gb, 0, .none⟩), .agg #[.int .i64 p.m, .int .i64 p.s, .int .i64 p.a], .bool front] w fun e w' => e = .returned (gEndV g p front) ∧ SG w0 gb (gPop g p front) bs w' := by
  obtain ⟨S, hT, hf⟩ := h.put
  exact (gr_pop hT p hp front).mono fun e w' ⟨he, h⟩ => ⟨he, hf w' _ h.put⟩
theorem sg_kind (h : SG w0 gb g bs w) (p : Plc) (hp : p.ok) : Calls Try.prog 32 #[.pointer (some ⟨gb, 0, .none⟩), .agg #[.int .i64 p.m, .int .i64 p.s, .int .i64 p.a]] w fun e w' => e = .returned (.int .u8 (gkind g p)) ∧ SG w0 gb g bs w' := by
  obtain ⟨S, hT, hf⟩ := h.put
  exact (gr_kind hT p hp).mono fun e w' ⟨he, hk⟩ => ⟨he, h.kp hk⟩
theorem sg_in (h : SG w0 gb g bs w) (x : Hd) (hx : x.ok) (n : Int) (hn : nwf n) :
    Calls Try.prog 35 #[.pointer (some ⟨gb, 0, .none⟩), .agg #[.int .i64 x.s, .int .u64 x.g], .int .i64 n] w fun e w' =>
      e = .returned (.tuple #[.agg #[.int .i64 ((g.In (x, n)).getD ⟨0, 0, 0⟩).m, .int .i64 ((g.In (x, n)).getD ⟨0, 0, 0⟩).s, .int .i64 ((g.In (x, n)).getD ⟨0, 0, 0⟩).a], .bool (g.In (x, n)).isSome]) ∧ SG w0 gb g bs w' := by
  obtain ⟨S, hT, hf⟩ := h.put
  exact (gr_in hT x hx n hn).mono fun e w' ⟨he, hk⟩ => ⟨he, h.kp hk⟩
end
set_option maxRecDepth 100000 in
set_option maxHeartbeats 1000000 in
theorem gone_any (n : Int) (w : World) (h0 : 0 ≤ n) (h1 : n ≤ 255) : Calls Try.prog 26 #[.int .u8 n] w fun e w' => e = .returned (.agg #[.int .i64 n, .int .u64 1]) ∧ Kp (fun _ => False) w w' := by
  go_enter Try.func26, Try.ntmps26
  go_wp2_with fail
  (try simp only [Exit.inBlock, Exit.then])
  refine bodyPost_ret (v := .agg #[.int .i64 n, .int .u64 1]) ?_ rfl ⟨rfl, ?_⟩
  · rw [results_cell_row rfl _ _ w.heap.size 34 #[.int .i64 n, .int .u64 1] (0, 0) _ rfl (heap_alloc_new _ _) Try.underlying34 rfl (by kernel_rfl)]
  · exact (Kp.refl _ _).alloc _
theorem sg_one {w0 w : World} {gb : Nat} {g : GS} {bs : List (Nat × Obj)} (h : SG w0 gb g bs w) (n : Int) (h0 : 0 ≤ n) (h1 : n ≤ 255) : Calls Try.prog 26 #[.int .u8 n] w fun e w' => e = .returned (.agg #[.int .i64 n, .int .u64 1]) ∧ SG w0 gb g bs w' :=
  (gone_any n w h0 h1).mono fun _e _w' ⟨he, hk⟩ => ⟨he, h.kp hk⟩

/-! ### The document's example -/
def wP : Plc := ⟨1, 2, 8⟩
theorem wP_ok : wP.ok := by refine ⟨?_, ?_, ?_⟩ <;> decide
def h1 : Hd := ⟨1, 1⟩
def h2 : Hd := ⟨2, 1⟩
theorem h1_ok : h1.ok := ⟨by decide, by decide⟩
theorem h2_ok : h2.ok := ⟨by decide, by decide⟩
theorem nwf0 : nwf 0 := by unfold nwf; decide
noncomputable def g1 : GS := gput emptyG wP false [h1] h1 0
noncomputable def g2 : GS := gdel g1 wP false [] h1 0
noncomputable def g3 : GS := gput g2 wP true [h2] h2 0
theorem w_push : pushErr emptyG wP h1 0 = 0 ∧ gPush emptyG wP h1 0 false = g1 := by
  have e : pushErr emptyG wP h1 0 = 0 := by simp [pushErr, emptyG, isTreeG]
  exact ⟨e, by unfold gPush; rw [if_pos e]; rfl⟩
theorem w_ins : gInsErr g1 wP 0 h2 0 = 3 ∧ gIns g1 wP 0 h2 0 = g1 := by
  have hl : isListG g1 wP = true := by simp [isListG, g1, gput, eput_same]
  have hi : g1.In (h2, 0) = .none := by simp only [g1, gput]; rw [eput_other _ _ _ _ (by decide)]; rfl
  have e : mayErrT g1 wP h2 0 = 3 := by unfold mayErrT; rw [hi, hl]; rfl
  have e2 : gInsErr g1 wP 0 h2 0 = 3 := by unfold gInsErr; rw [e]; rfl
  exact ⟨e2, by unfold gIns; rw [if_neg (by rw [e2]; decide)]⟩
theorem w_in : g1.In (h1, 0) = some wP := by simp [g1, gput, eput_same]
theorem w_row1 : rowL g1 wP = [h1] := by simp [rowL, g1, gput, eput_same]
theorem w_push2 : pushErr g1 wP h1 0 = 7 ∧ gPush g1 wP h1 0 true = g1 := by
  have e : pushErr g1 wP h1 0 = 7 := by unfold pushErr; rw [w_in]; rfl
  exact ⟨e, by unfold gPush; rw [if_neg (by rw [e]; decide)]⟩
theorem w_pop : gEndV g1 wP true = .tuple #[.agg #[.int .i64 1, .int .u64 1], .bool true] ∧ gPop g1 wP true = g2 := by
  have hR : g1.R wP = some (false, [h1]) := by simp [g1, gput, eput_same]
  have hl : isListG g1 wP = true := by simp [isListG, hR]
  have hb : g1.By (wP, h1) = some 0 := by simp [g1, gput, eput_same]
  have he : gEnd g1 wP true = some h1 := by unfold gEnd; rw [hl, rowL_some hR]; rfl
  refine ⟨by unfold gEndV; rw [he]; rfl, ?_⟩
  unfold gPop
  rw [he]
  simp only [hb, Option.getD_some, rowL_some hR]
  rfl
theorem w_R2 : g2.R wP = .none := by simp [g2, gdel, edel_same]
theorem w_kind2 : gkind g2 wP = 0 := by simp [gkind, w_R2]
theorem w_ins2 : gInsErr g2 wP 0 h2 0 = 0 ∧ gIns g2 wP 0 h2 0 = g3 := by
  have hi : g2.In (h2, 0) = .none := by simp only [g2, gdel, g1, gput]; rw [edel_other _ _ _ (by decide), eput_other _ _ _ _ (by decide)]; rfl
  have hb : g2.By (wP, h2) = .none := by simp only [g2, gdel, g1, gput]; rw [edel_other _ _ _ (by decide), eput_other _ _ _ _ (by decide)]; rfl
  have hl : isListG g2 wP = false := by simp [isListG, w_R2]
  have e : mayErrT g2 wP h2 0 = 0 := by unfold mayErrT; rw [hi, hb, hl]; rfl
  have hr : rowL g2 wP = [] := rowL_none w_R2
  have e2 : gInsErr g2 wP 0 h2 0 = 0 := by unfold gInsErr; rw [e, hr]; rfl
  refine ⟨e2, ?_⟩
  unfold gIns
  rw [if_pos e2, hr]
  rfl
theorem w_kind3 : gkind g3 wP = 2 := by simp [gkind, g3, gput, eput_same]

set_option maxRecDepth 100000 in
set_option maxHeartbeats 2000000 in
theorem gworks_any (w0 w : World) (hb : Below w0.heap.size w0 w) : Calls Try.prog 24 #[] w fun e w' => e = .returned (.bool true) ∧ Below w0.heap.size w0 w' := by
  go_enter Try.func24, Try.ntmps24
  go_wp2_with fail
  refine (sg_new hb).mono ?_
  rintro e w1 ⟨gb, rfl, s1⟩
  go_wp2_with fail
  have s2 := s1.box (.cells #[.int .i64 1, .int .i64 2, .int .i64 8] 55)
  obtain ⟨B2, hB2⟩ : ∃ B, w1.heap.size = B := ⟨_, rfl⟩
  simp only [hB2] at s2 ⊢
  generalize w1.alloc (Obj.cells #[Value.int IntKind.i64 1, Value.int IntKind.i64 2, Value.int IntKind.i64 8] 55) = W2 at s2 ⊢
  clear s1 hB2
  have hpb : ∀ (g : GS) (bs : List (Nat × Obj)) (W : World), SG w0 gb g bs W → (B2, Obj.cells #[Value.int IntKind.i64 1, Value.int IntKind.i64 2, Value.int IntKind.i64 8] 55) ∈ bs → PBox W B2 wP := fun _ _ _ h hm => h.obox hm
  have hpbh := Lib.hid hpb
  clear hpb
  have p0 := (hpbh.out _ _ _ s2 (by simp)).c0
  have p1 := (hpbh.out _ _ _ s2 (by simp)).c1
  have p2 := (hpbh.out _ _ _ s2 (by simp)).c2
  go_region_held3 (fun w' => w'.cell? ⟨B2, 0, .none⟩ = some (.int .i64 1) ∧ w'.cell? ⟨B2, 1, .none⟩ = some (.int .i64 2) ∧ w'.cell? ⟨B2, 2, .none⟩ = some (.int .i64 8))
    (first | exact ⟨p0, p1, p2⟩ | exact ⟨(hpbh.out _ _ _ s3 (by simp)).c0, (hpbh.out _ _ _ s3 (by simp)).c1, (hpbh.out _ _ _ s3 (by simp)).c2⟩ | exact ⟨(hpbh.out _ _ _ s4 (by simp)).c0, (hpbh.out _ _ _ s4 (by simp)).c1, (hpbh.out _ _ _ s4 (by simp)).c2⟩)
    (first | (go_at_call 26; refine (sg_one s2.drew 1 (by decide) (by decide)).mono ?_; rintro e w3 ⟨rfl, s3⟩) | (go_at_call 27; refine (sg_push s3 wP wP_ok h1 h1_ok 0 nwf0 false).mono ?_; rintro e w4 ⟨rfl, s4⟩; rw [w_push.1]; rw [w_push.2] at s4))
  clear s2 s3 p0 p1 p2
  have p0 := (hpbh.out _ _ _ s4 (by simp)).c0
  have p1 := (hpbh.out _ _ _ s4 (by simp)).c1
  have p2 := (hpbh.out _ _ _ s4 (by simp)).c2
  go_wp2_with fail
  go_region_held3 (fun w' => w'.cell? ⟨B2, 0, .none⟩ = some (.int .i64 1) ∧ w'.cell? ⟨B2, 1, .none⟩ = some (.int .i64 2) ∧ w'.cell? ⟨B2, 2, .none⟩ = some (.int .i64 8))
    (first | exact ⟨p0, p1, p2⟩ | exact ⟨(hpbh.out _ _ _ s5 (by simp)).c0, (hpbh.out _ _ _ s5 (by simp)).c1, (hpbh.out _ _ _ s5 (by simp)).c2⟩ | exact ⟨(hpbh.out _ _ _ s6 (by simp)).c0, (hpbh.out _ _ _ s6 (by simp)).c1, (hpbh.out _ _ _ s6 (by simp)).c2⟩)
    (first | (go_at_call 26; refine (sg_one s4.drew 2 (by decide) (by decide)).mono ?_; rintro e w5 ⟨rfl, s5⟩) | (go_at_call 28; refine (sg_insert s5 wP wP_ok 0 h2 h2_ok 0 nwf0 (by rw [w_row1]; decide)).mono ?_; rintro e w6 ⟨rfl, s6⟩; rw [w_ins.1]; rw [w_ins.2] at s6))
  clear s4 s5 p0 p1 p2
  have p0 := (hpbh.out _ _ _ s6 (by simp)).c0
  have p1 := (hpbh.out _ _ _ s6 (by simp)).c1
  have p2 := (hpbh.out _ _ _ s6 (by simp)).c2
  go_wp2_with fail
  refine (sg_one s6 1 (by decide) (by decide)).mono ?_
  rintro e w7 ⟨rfl, s7⟩
  clear s6 p0 p1 p2
  have p0 := (hpbh.out _ _ _ s7 (by simp)).c0
  have p1 := (hpbh.out _ _ _ s7 (by simp)).c1
  have p2 := (hpbh.out _ _ _ s7 (by simp)).c2
  go_wp2_with fail
  refine (sg_in s7 h1 h1_ok 0 nwf0).mono ?_
  rintro e w8 ⟨rfl, s8⟩
  rw [w_in]
  simp only [Option.getD_some, Option.isSome_some, wP]
  clear s7 p0 p1 p2
  have p0 := (hpbh.out _ _ _ s8 (by simp)).c0
  have p1 := (hpbh.out _ _ _ s8 (by simp)).c1
  have p2 := (hpbh.out _ _ _ s8 (by simp)).c2
  go_wp2_with fail
  have s9 := s8.box (.cells #[.int .i64 1, .int .i64 2, .int .i64 8] 55)
  obtain ⟨B5, hB5⟩ : ∃ B, w8.heap.size = B := ⟨_, rfl⟩
  simp only [hB5] at s9 ⊢
  generalize w8.alloc (Obj.cells #[Value.int IntKind.i64 1, Value.int IntKind.i64 2, Value.int IntKind.i64 8] 55) = W9 at s9 ⊢
  clear s8 p0 p1 p2 hB5
  have p0 := (hpbh.out _ _ _ s9 (by simp)).c0
  have p1 := (hpbh.out _ _ _ s9 (by simp)).c1
  have p2 := (hpbh.out _ _ _ s9 (by simp)).c2
  go_region_held3 (fun w' => w'.cell? ⟨B2, 0, .none⟩ = some (.int .i64 1) ∧ w'.cell? ⟨B2, 1, .none⟩ = some (.int .i64 2) ∧ w'.cell? ⟨B2, 2, .none⟩ = some (.int .i64 8))
    (first | exact ⟨p0, p1, p2⟩ | exact ⟨(hpbh.out _ _ _ s10 (by simp)).c0, (hpbh.out _ _ _ s10 (by simp)).c1, (hpbh.out _ _ _ s10 (by simp)).c2⟩ | exact ⟨(hpbh.out _ _ _ s11 (by simp)).c0, (hpbh.out _ _ _ s11 (by simp)).c1, (hpbh.out _ _ _ s11 (by simp)).c2⟩)
    (first | (go_at_call 26; refine (sg_one s9.drew 1 (by decide) (by decide)).mono ?_; rintro e w10 ⟨rfl, s10⟩) | (go_at_call 27; refine (sg_push s10 wP wP_ok h1 h1_ok 0 nwf0 true).mono ?_; rintro e w11 ⟨rfl, s11⟩; rw [w_push2.1]; rw [w_push2.2] at s11))
  clear s9 s10 p0 p1 p2
  have p0 := (hpbh.out _ _ _ s11 (by simp)).c0
  have p1 := (hpbh.out _ _ _ s11 (by simp)).c1
  have p2 := (hpbh.out _ _ _ s11 (by simp)).c2
  go_wp2_with fail
  refine (sg_pop s11 wP wP_ok true).mono ?_
  rintro e w12 ⟨rfl, s12⟩
  rw [w_pop.1]
  rw [w_pop.2] at s12
  clear s11 p0 p1 p2
  go_wp2_with fail
  have s13 := s12.box (.cells #[.int .i64 1, .int .u64 1] 34)
  obtain ⟨B8, hB8⟩ : ∃ B, w12.heap.size = B := ⟨_, rfl⟩
  simp only [hB8] at s13 ⊢
  generalize w12.alloc (Obj.cells #[Value.int IntKind.i64 1, Value.int IntKind.u64 1] 34) = W13 at s13 ⊢
  clear s12 hB8
  have hqb := Lib.hid (show ∀ (g : GS) (bs : List (Nat × Obj)) (W : World), SG w0 gb g bs W → (B5, Obj.cells #[Value.int IntKind.i64 1, Value.int IntKind.i64 2, Value.int IntKind.i64 8] 55) ∈ bs → PBox W B5 wP from fun _ _ _ h hm => h.obox hm)
  have hhb := Lib.hid (show ∀ (g : GS) (bs : List (Nat × Obj)) (W : World), SG w0 gb g bs W → (B8, Obj.cells #[Value.int IntKind.i64 1, Value.int IntKind.u64 1] 34) ∈ bs → HBox W B8 h1 from fun _ _ _ h hm => h.obox hm)
  have p0 := (hpbh.out _ _ _ s13 (by simp)).c0
  have p1 := (hpbh.out _ _ _ s13 (by simp)).c1
  have p2 := (hpbh.out _ _ _ s13 (by simp)).c2
  have q0 := (hqb.out _ _ _ s13 (by simp)).c0
  have q1 := (hqb.out _ _ _ s13 (by simp)).c1
  have q2 := (hqb.out _ _ _ s13 (by simp)).c2
  have r0 := (hhb.out _ _ _ s13 (by simp)).c0
  have r1 := (hhb.out _ _ _ s13 (by simp)).c1
  go_region_held3 (fun w' => (w'.cell? ⟨B2, 0, .none⟩ = some (.int .i64 1) ∧ w'.cell? ⟨B2, 1, .none⟩ = some (.int .i64 2) ∧ w'.cell? ⟨B2, 2, .none⟩ = some (.int .i64 8)) ∧ (w'.cell? ⟨B5, 0, .none⟩ = some (.int .i64 1) ∧ w'.cell? ⟨B5, 1, .none⟩ = some (.int .i64 2) ∧ w'.cell? ⟨B5, 2, .none⟩ = some (.int .i64 8)) ∧ w'.cell? ⟨B8, 0, .none⟩ = some (.int .i64 1) ∧ w'.cell? ⟨B8, 1, .none⟩ = some (.int .u64 1))
    (first | exact ⟨⟨p0, p1, p2⟩, ⟨q0, q1, q2⟩, r0, r1⟩ | exact ⟨⟨(hpbh.out _ _ _ s14 (by simp)).c0, (hpbh.out _ _ _ s14 (by simp)).c1, (hpbh.out _ _ _ s14 (by simp)).c2⟩, ⟨(hqb.out _ _ _ s14 (by simp)).c0, (hqb.out _ _ _ s14 (by simp)).c1, (hqb.out _ _ _ s14 (by simp)).c2⟩, (hhb.out _ _ _ s14 (by simp)).c0, (hhb.out _ _ _ s14 (by simp)).c1⟩ | exact ⟨⟨(hpbh.out _ _ _ s15 (by simp)).c0, (hpbh.out _ _ _ s15 (by simp)).c1, (hpbh.out _ _ _ s15 (by simp)).c2⟩, ⟨(hqb.out _ _ _ s15 (by simp)).c0, (hqb.out _ _ _ s15 (by simp)).c1, (hqb.out _ _ _ s15 (by simp)).c2⟩, (hhb.out _ _ _ s15 (by simp)).c0, (hhb.out _ _ _ s15 (by simp)).c1⟩ | exact ⟨⟨(hpbh.out _ _ _ s16 (by simp)).c0, (hpbh.out _ _ _ s16 (by simp)).c1, (hpbh.out _ _ _ s16 (by simp)).c2⟩, ⟨(hqb.out _ _ _ s16 (by simp)).c0, (hqb.out _ _ _ s16 (by simp)).c1, (hqb.out _ _ _ s16 (by simp)).c2⟩, (hhb.out _ _ _ s16 (by simp)).c0, (hhb.out _ _ _ s16 (by simp)).c1⟩ | exact ⟨⟨(hpbh.out _ _ _ s17 (by simp)).c0, (hpbh.out _ _ _ s17 (by simp)).c1, (hpbh.out _ _ _ s17 (by simp)).c2⟩, ⟨(hqb.out _ _ _ s17 (by simp)).c0, (hqb.out _ _ _ s17 (by simp)).c1, (hqb.out _ _ _ s17 (by simp)).c2⟩, (hhb.out _ _ _ s17 (by simp)).c0, (hhb.out _ _ _ s17 (by simp)).c1⟩ | exact ⟨⟨(hpbh.out _ _ _ s18 (by simp)).c0, (hpbh.out _ _ _ s18 (by simp)).c1, (hpbh.out _ _ _ s18 (by simp)).c2⟩, ⟨(hqb.out _ _ _ s18 (by simp)).c0, (hqb.out _ _ _ s18 (by simp)).c1, (hqb.out _ _ _ s18 (by simp)).c2⟩, (hhb.out _ _ _ s18 (by simp)).c0, (hhb.out _ _ _ s18 (by simp)).c1⟩)
    (first | (go_at_call 26; refine (sg_one s15 2 (by decide) (by decide)).mono ?_; rintro e w16 ⟨rfl, s16⟩) | (go_at_call 26; refine (sg_one s13.drew 1 (by decide) (by decide)).mono ?_; rintro e w14 ⟨rfl, s14⟩) | (go_at_call 32; refine (sg_kind s17 wP wP_ok).mono ?_; rintro e w18 ⟨rfl, s18⟩; rw [w_kind3]) | (go_at_call 32; refine (sg_kind s14 wP wP_ok).mono ?_; rintro e w15 ⟨rfl, s15⟩; rw [w_kind2]) | (go_at_call 28; refine (sg_insert s16 wP wP_ok 0 h2 h2_ok 0 nwf0 (by rw [rowL_none w_R2]; decide)).mono ?_; rintro e w17 ⟨rfl, s17⟩; rw [w_ins2.1]; rw [w_ins2.2] at s17))
  all_goals
    go_wp2_with fail
    go_ret
    exact ⟨rfl, s18.below⟩
end Go.Proofs.Ytimhbnlgambcaaa
