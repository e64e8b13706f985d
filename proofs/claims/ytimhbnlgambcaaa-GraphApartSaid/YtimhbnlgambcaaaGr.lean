/- Two graphs, apart, over a base world, with blocks beside them. -/
import Derived.Test.YtimhbnlgambcaaaGp
import Derived.Test.YtimhbnlgambcaaaGq
namespace Go.Proofs.Ytimhbnlgambcaaa
open Go.RowKit Go.BigFrame

/-- Since w0 nothing old has turned; at gb lies the graph g, at ab the graph a, apart; the blocks bs hold what they hold, beside both. -/
def DG (w0 : World) (gb ab : Nat) (g a : GS) (bs : List (Nat × Obj)) (w : World) : Prop :=
  ∃ S1 S2, GraphAt w gb S1 g ∧ GraphAt w ab S2 a ∧ (∀ k, S1 k → ¬ S2 k) ∧ (∀ k, S1 k → w0.heap.size ≤ k) ∧ (∀ k, S2 k → w0.heap.size ≤ k) ∧ Below w0.heap.size w0 w ∧ ∀ q ∈ bs, OBox w q.1 q.2 ∧ ¬ S1 q.1 ∧ ¬ S2 q.1
section
variable {w0 w w' : World} {gb ab : Nat} {g a g' a' : GS} {bs : List (Nat × Obj)}
theorem DG.kp (h : DG w0 gb ab g a bs w) (hk : Kp (fun _ => False) w w') : DG w0 gb ab g a bs w' := by
  obtain ⟨S1, S2, h1, h2, h3, h4, h5, h6, h7⟩ := h
  exact ⟨S1, S2, h1.kp0 hk, h2.kp0 hk, h3, h4, h5, h6.trans (hk.below h6.size (fun _ h => h.elim)), fun q hq => ⟨(h7 q hq).1.kp hk (fun h => h), (h7 q hq).2⟩⟩
theorem DG.drew (h : DG w0 gb ab g a bs w) : DG w0 gb ab g a bs w.drew := h.kp (Kp.refl _ _).drew
theorem DG.box (h : DG w0 gb ab g a bs w) (o : Obj) : DG w0 gb ab g a ((w.heap.size, o) :: bs) (w.alloc o) := by
  obtain ⟨S1, S2, h1, h2, h3, h4, h5, h6, h7⟩ := h.kp (w' := w.alloc o) ((Kp.refl _ _).alloc o)
  obtain ⟨S1', S2', h1', h2', h3', h4', h5', h6', h7'⟩ := h
  have hk : Kp (fun _ => False) w (w.alloc o) := (Kp.refl _ _).alloc o
  refine ⟨S1', S2', h1'.kp0 hk, h2'.kp0 hk, h3', h4', h5', h6, ?_⟩
  intro q hq
  rcases List.mem_cons.1 hq with rfl | hq
  · exact ⟨heap_alloc_new _ _, fun hs => Nat.lt_irrefl _ (h1'.lt hs), fun hs => Nat.lt_irrefl _ (h2'.lt hs)⟩
  · exact ⟨(h7' q hq).1.kp hk (fun h => h), (h7' q hq).2⟩
theorem DG.less (h : DG w0 gb ab g a bs w) {bs' : List (Nat × Obj)} (hs : ∀ q ∈ bs', q ∈ bs) : DG w0 gb ab g a bs' w := by
  obtain ⟨S1, S2, h1, h2, h3, h4, h5, h6, h7⟩ := h
  exact ⟨S1, S2, h1, h2, h3, h4, h5, h6, fun q hq => h7 q (hs q hq)⟩
theorem DG.below (h : DG w0 gb ab g a bs w) : Below w0.heap.size w0 w := by obtain ⟨S1, S2, h1, h2, h3, h4, h5, h6, h7⟩ := h; exact h6
theorem DG.obox (h : DG w0 gb ab g a bs w) {b : Nat} {x : Obj} (hm : (b, x) ∈ bs) : OBox w b x := by obtain ⟨S1, S2, h1, h2, h3, h4, h5, h6, h7⟩ := h; exact (h7 _ hm).1
theorem DG.okg (h : DG w0 gb ab g a bs w) : GOk g := by obtain ⟨S1, S2, h1, h2, h3, h4, h5, h6, h7⟩ := h; exact h1.ok
theorem DG.oka (h : DG w0 gb ab g a bs w) : GOk a := by obtain ⟨S1, S2, h1, h2, h3, h4, h5, h6, h7⟩ := h; exact h2.ok
theorem DG.swap (h : DG w0 gb ab g a bs w) : DG w0 ab gb a g bs w := by
  obtain ⟨S1, S2, h1, h2, h3, h4, h5, h6, h7⟩ := h
  exact ⟨S2, S1, h2, h1, fun k h2 h1 => h3 k h1 h2, h5, h4, h6, fun q hq => ⟨(h7 q hq).1, (h7 q hq).2.2, (h7 q hq).2.1⟩⟩
theorem DG.put (h : DG w0 gb ab g a bs w) : ∃ S, GraphAt w gb S g ∧ ∀ w' g', PutPost w gb S g' w' → DG w0 gb ab g' a bs w' := by
  obtain ⟨S1, S2, h1, h2, h3, h4, h5, h6, h7⟩ := h
  refine ⟨S1, h1, fun w' g' ⟨S', hT, hk, hS⟩ => ⟨S', S2, hT, h2.kp hk (fun k hs2 hs1 => h3 k hs1 hs2), fun k hs hs2 => ?_, fun k hk' => (hS k hk').elim (h4 k) (fun h => Nat.le_trans h6.size h), h5, h6.trans (hk.below h6.size h4), fun q hq => ⟨(h7 q hq).1.kp hk (h7 q hq).2.1, fun hs => ?_, (h7 q hq).2.2⟩⟩⟩
  · rcases hS _ hs with h | h
    · exact h3 k h hs2
    · have := h2.lt hs2
      omega
  · rcases hS _ hs with h | h
    · exact (h7 q hq).2.1 h
    · have := (h7 q hq).1.lt
      omega
theorem dg_new (h : Below w0.heap.size w0 w) {bs : List (Nat × Obj)} (hb : ∀ q ∈ bs, OBox w q.1 q.2) {S : Nat → Prop} (hg : GraphAt w gb S g) (hS : ∀ k, S k → w0.heap.size ≤ k) (hd : ∀ q ∈ bs, ¬ S q.1) :
    Calls Try.prog 25 #[] w fun e w' => ∃ ab, e = .returned (.pointer (some ⟨ab, 0, .none⟩)) ∧ DG w0 gb ab g emptyG bs w' := by
  refine (gr_new w).mono ?_
  rintro e w' ⟨ab, S', rfl, hT, hS', hk⟩
  exact ⟨ab, rfl, S, S', hg.kp0 hk, hT, fun k h1 h2 => by have := hg.lt h1; have := hS' k h2; omega, hS, fun k hk' => Nat.le_trans h.size (hS' k hk'), h.trans (hk.below h.size (fun _ h => h.elim)), fun q hq => ⟨(hb q hq).kp hk (fun h => h), hd q hq, fun h2 => by have := hS' _ h2; have := (hb q hq).lt; omega⟩⟩
theorem dg_push (h : DG w0 gb ab g a bs w) (p : Plc) (hp : p.ok) (x : Hd) (hx : x.ok) (n : Int) (hn : nwf n) (front : Bool) :
    Calls Try.prog 27 #[.pointer (some ⟨gb, 0, .none⟩), .agg #[.int .i64 p.m, .int .i64 p.s, .int .i64 p.a], .agg #[.int .i64 x.s, .int .u64 x.g], .int .i64 n, .bool front] w fun e w' =>
      e = .returned (.int .i64 (pushErr g p x n)) ∧ DG w0 gb ab (gPush g p x n front) a bs w' := by
  obtain ⟨S, hT, hf⟩ := h.put
  exact (gr_push hT p hp x hx n hn front).mono fun e w' ⟨he, h⟩ => ⟨he, hf w' _ h⟩
theorem dg_insert (h : DG w0 gb ab g a bs w) (p : Plc) (hp : p.ok) (i : Int) (x : Hd) (hx : x.ok) (n : Int) (hn : nwf n) (small : (rowL g p).length < 1000000) :
    Calls Try.prog 28 #[.pointer (some ⟨gb, 0, .none⟩), .agg #[.int .i64 p.m, .int .i64 p.s, .int .i64 p.a], .int .i64 i, .agg #[.int .i64 x.s, .int .u64 x.g], .int .i64 n] w fun e w' =>
      e = .returned (.int .i64 (gInsErr g p i x n)) ∧ DG w0 gb ab (gIns g p i x n) a bs w' := by
  obtain ⟨S, hT, hf⟩ := h.put
  exact (gr_insert hT p hp i x hx n hn small).mono fun e w' ⟨he, h⟩ => ⟨he, hf w' _ h⟩
theorem dg_pop (h : DG w0 gb ab g a bs w) (p : Plc) (hp : p.ok) (front : Bool) :
    Calls Try.prog 29 #[.pointer (some ⟨gb, 0, .none⟩), .agg #[.int .i64 p.m, .int .i64 p.s, .int .i64 p.a], .bool front] w fun e w' => e = .returned (gEndV g p front) ∧ DG w0 gb ab (gPop g p front) a bs w' := by
  obtain ⟨S, hT, hf⟩ := h.put
  exact (gr_pop hT p hp front).mono fun e w' ⟨he, h⟩ => ⟨he, hf w' _ h.put⟩
theorem dg_remove (h : DG w0 gb ab g a bs w) (p : Plc) (hp : p.ok) (x : Hd) (hx : x.ok) (n : Int) (hn : nwf n) (small : (rowL g p).length < 1000000) :
    Calls Try.prog 30 #[.pointer (some ⟨gb, 0, .none⟩), .agg #[.int .i64 p.m, .int .i64 p.s, .int .i64 p.a], .agg #[.int .i64 x.s, .int .u64 x.g], .int .i64 n] w fun e w' => e = .returned (.bool (decide (g.In (x, n) = some p))) ∧ DG w0 gb ab (gRem g p x n) a bs w' := by
  obtain ⟨S, hT, hf⟩ := h.put
  exact (gr_remove hT p hp x hx n hn small).mono fun e w' ⟨he, h⟩ => ⟨he, hf w' _ h.put⟩
theorem dg_len (h : DG w0 gb ab g a bs w) (p : Plc) (hp : p.ok) : Calls Try.prog 31 #[.pointer (some ⟨gb, 0, .none⟩), .agg #[.int .i64 p.m, .int .i64 p.s, .int .i64 p.a]] w fun e w' => e = .returned (.int .i64 (rowL g p).length) ∧ Kp (fun _ => False) w w' := by
  obtain ⟨S, hT, hf⟩ := h.put
  exact gr_len hT p hp
theorem dg_kind (h : DG w0 gb ab g a bs w) (p : Plc) (hp : p.ok) : Calls Try.prog 32 #[.pointer (some ⟨gb, 0, .none⟩), .agg #[.int .i64 p.m, .int .i64 p.s, .int .i64 p.a]] w fun e w' => e = .returned (.int .u8 (gkind g p)) ∧ Kp (fun _ => False) w w' := by
  obtain ⟨S, hT, hf⟩ := h.put
  exact gr_kind hT p hp
theorem dg_at (h : DG w0 gb ab g a bs w) (p : Plc) (hp : p.ok) (small : (rowL g p).length ≤ 1000000) (k : Nat) (y : Hd) (hy : (rowL g p)[k]? = some y) :
    Calls Try.prog 33 #[.pointer (some ⟨gb, 0, .none⟩), .agg #[.int .i64 p.m, .int .i64 p.s, .int .i64 p.a], .int .i64 k] w fun e w' => e = .returned (.tuple #[.agg #[.int .i64 y.s, .int .u64 y.g], .bool true]) ∧ Kp (fun _ => False) w w' := by
  obtain ⟨S, hT, hf⟩ := h.put
  exact gr_at hT p hp small k y true (.inl ⟨k, rfl, hy, rfl⟩)
end
end Go.Proofs.Ytimhbnlgambcaaa
