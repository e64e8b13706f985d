/- A tree over a base world, with whatever blocks beside it (Lb's contracts, for blocks of any content). -/
import Derived.Test.YtimhbnlgambcaaaRa
namespace Go.Proofs.Ytimhbnlgambcaaa
open Go.RowKit

/-- Block b holds o. -/
def OBox (w : World) (b : Nat) (o : Obj) : Prop := w.heap[b]? = some o
theorem OBox.lt {w : World} {b : Nat} {o : Obj} (h : OBox w b o) : b < w.heap.size := lt_of_block h
/-- Since w0 nothing old has turned; at tb lies a tree of L; the blocks bs hold what they hold, beside the tree. -/
def Sto (w0 : World) (tb : Nat) (L : List Hd) (bs : List (Nat × Obj)) (w : World) : Prop :=
  ∃ S, TreeAt w tb S L ∧ (∀ k, S k → w0.heap.size ≤ k) ∧ Below w0.heap.size w0 w ∧ ∀ q ∈ bs, OBox w q.1 q.2 ∧ ¬ S q.1

section
variable {w0 w w' : World} {tb : Nat} {L : List Hd} {bs : List (Nat × Obj)}

theorem OBox.kp {R : Nat → Prop} {b : Nat} {o : Obj} (hb : OBox w b o) (hk : Kp R w w') (hn : ¬ R b) : OBox w' b o := (hk.block b (lt_of_block hb) hn).trans hb
theorem Sto.kp (h : Sto w0 tb L bs w) (hk : Kp (fun _ => False) w w') : Sto w0 tb L bs w' := by
  obtain ⟨S, h1, h2, h3, h4⟩ := h
  exact ⟨S, h1.kp hk (fun _ _ h => h), h2, h3.trans (hk.below h3.size (fun _ h => h.elim)), fun q hq => ⟨(h4 q hq).1.kp hk (fun h => h), (h4 q hq).2⟩⟩
theorem Sto.drew (h : Sto w0 tb L bs w) : Sto w0 tb L bs w.drew := h.kp (Kp.refl _ _).drew
theorem Sto.drewN (h : Sto w0 tb L bs w) (n : Nat) : Sto w0 tb L bs (w.drewN n) := h.kp ((Kp.refl _ _).drewN n)
theorem Sto.alloc (h : Sto w0 tb L bs w) (o : Obj) : Sto w0 tb L bs (w.alloc o) := h.kp ((Kp.refl _ _).alloc o)
theorem Sto.box (h : Sto w0 tb L bs w) (o : Obj) : Sto w0 tb L ((w.heap.size, o) :: bs) (w.alloc o) := by
  obtain ⟨S, h1, h2, h3, h4⟩ := h.alloc o
  obtain ⟨S', h1', h2', h3', h4'⟩ := h
  refine ⟨S', h1'.alloc _, h2', h3, ?_⟩
  intro q hq
  rcases List.mem_cons.1 hq with rfl | hq
  · exact ⟨heap_alloc_new _ _, fun hs => Nat.lt_irrefl _ (h1'.lt hs)⟩
  · exact ⟨(h4' q hq).1.kp (R := fun _ => False) ((Kp.refl _ _).alloc _) (fun h => h), (h4' q hq).2⟩
theorem Sto.less (h : Sto w0 tb L bs w) {bs' : List (Nat × Obj)} (hs : ∀ q ∈ bs', q ∈ bs) : Sto w0 tb L bs' w := by
  obtain ⟨S, h1, h2, h3, h4⟩ := h
  exact ⟨S, h1, h2, h3, fun q hq => h4 q (hs q hq)⟩
theorem Sto.below (h : Sto w0 tb L bs w) : Below w0.heap.size w0 w := by
  obtain ⟨S, h1, h2, h3, h4⟩ := h
  exact h3
theorem Sto.hbox (h : Sto w0 tb L bs w) {b : Nat} {x : Obj} (hm : (b, x) ∈ bs) : OBox w b x := by
  obtain ⟨S, h1, h2, h3, h4⟩ := h
  exact (h4 _ hm).1
theorem Sto.nodup (h : Sto w0 tb L bs w) : L.Nodup := by
  obtain ⟨S, h1, h2, h3, h4⟩ := h
  exact h1.nodup
theorem Sto.ok (h : Sto w0 tb L bs w) : ∀ x ∈ L, x.ok := by
  obtain ⟨S, h1, h2, h3, h4⟩ := h
  exact h1.ok

theorem sto_new (h : Below w0.heap.size w0 w) : Calls Try.prog 10 #[] w fun e w' => ∃ tb, e = .returned (.pointer (some ⟨tb, 0, .none⟩)) ∧ Sto w0 tb [] [] w' := by
  refine (tree_new w).mono ?_
  rintro e w' ⟨tb, S, rfl, hT, hS, hk⟩
  exact ⟨tb, rfl, S, hT, fun k hk' => Nat.le_trans h.size (hS k hk'), h.trans (hk.below h.size (fun _ h => h.elim)), by simp⟩
theorem sto_len (h : Sto w0 tb L bs w) : Calls Try.prog 22 #[.pointer (some ⟨tb, 0, .none⟩)] w fun e w' => e = .returned (.int .i64 L.length) ∧ w' = w := by
  obtain ⟨S, h1, h2, h3, h4⟩ := h
  exact calls_same (tree_len h1)
theorem sto_deep (h : Sto w0 tb L bs w) (small : L.length < 1099511627776) : ∃ d : Nat, d ≤ 2 * digs (L.length + 1) ∧ d ≤ L.length ∧
    ∀ w', Kp (fun _ => False) w w' → Calls Try.prog 20 #[.pointer (some ⟨tb, 0, .none⟩)] w' fun e w'' => e = .returned (.int .i64 d) ∧ ∃ n, w'' = w'.drewN n := by
  obtain ⟨S, ⟨mb, n, H, F, T, h1, h2, h3, h4, h5, h6⟩, _⟩ := h
  have hc : T.cnt = L.length := by rw [cnt_ord, h3]
  obtain ⟨N, hN⟩ := h2.rb
  have h7 := rb_dep hN
  refine ⟨T.dep, ?_, by rw [← hc]; exact dep_le T, fun w' hk => ?_⟩
  · have := digs_pow N (L.length + 1) (by rw [← hc]; exact h7.2)
    have h8 : T.dep ≤ 2 * N := by simpa using h7.1
    omega
  · exact deep_any w' tb mb T.cnt _ H (h1.kp hk (fun _ _ h => h)).r _ (deepZ T (k := T.cnt) h2.holds (Nat.le_refl _) (by omega))
theorem sto_at (h : Sto w0 tb L bs w) (i : Int) (small : L.length < 1099511627776) :
    Calls Try.prog 16 #[.pointer (some ⟨tb, 0, .none⟩), .int .i64 i] w fun e w' =>
      ((¬ (0 ≤ i ∧ i < L.length) ∧ e = .returned (.tuple #[.agg #[.int .i64 0, .int .u64 0], .bool false])) ∨ (∃ (j : Nat) (h : Hd), i = j ∧ L[j]? = some h ∧ e = .returned (.tuple #[.agg #[.int .i64 h.s, .int .u64 h.g], .bool true]))) ∧ Sto w0 tb L bs w' := by
  have h0 := h
  obtain ⟨S, h1, h2, h3, h4⟩ := h
  refine (tree_at h1 i small).mono ?_
  rintro e w' ⟨he, _, hk⟩
  exact ⟨he, h0.kp hk⟩
theorem sto_index (h : Sto w0 tb L bs w) (x : Hd) (hx : x.ok) (small : L.length < 1099511627776) :
    Calls Try.prog 17 #[.pointer (some ⟨tb, 0, .none⟩), .agg #[.int .i64 x.s, .int .u64 x.g]] w fun e w' =>
      ((x ∉ L ∧ e = .returned (.tuple #[.int .i64 0, .bool false])) ∨ (∃ i : Nat, L[i]? = some x ∧ e = .returned (.tuple #[.int .i64 i, .bool true]))) ∧ Sto w0 tb L bs w' := by
  have h0 := h
  obtain ⟨S, h1, h2, h3, h4⟩ := h
  refine (tree_index h1 x hx small).mono ?_
  rintro e w' ⟨he, _, hk⟩
  exact ⟨he, h0.kp hk⟩
theorem sto_insert (h : Sto w0 tb L bs w) (i : Int) (x : Hd) (hx : x.ok) (small : L.length + 1 < 1099511627776) :
    Calls Try.prog 14 #[.pointer (some ⟨tb, 0, .none⟩), .int .i64 i, .agg #[.int .i64 x.s, .int .u64 x.g]] w fun e w' =>
      e = .returned (.int .i64 (insErr L i x)) ∧ Sto w0 tb (insList L i x) bs w' := by
  obtain ⟨S, h1, h2, h3, h4⟩ := h
  refine (tree_insert h1 i x hx small).mono ?_
  rintro e w' ⟨he, S', hT, hk, hS⟩
  refine ⟨he, S', hT, fun k hk' => (hS k hk').elim (h2 k) (fun h => Nat.le_trans h3.size h), h3.trans (hk.below h3.size h2), fun q hq => ⟨(h4 q hq).1.kp hk (h4 q hq).2, fun hs => ?_⟩⟩
  rcases hS _ hs with h | h
  · exact (h4 q hq).2 h
  · have := (h4 q hq).1.lt
    omega
theorem sto_remove (h : Sto w0 tb L bs w) (x : Hd) (hx : x.ok) (small : L.length < 1099511627776) :
    Calls Try.prog 12 #[.pointer (some ⟨tb, 0, .none⟩), .agg #[.int .i64 x.s, .int .u64 x.g]] w fun e w' =>
      (x ∉ L ∧ e = .returned (.tuple #[.int .i64 0, .bool false]) ∧ Sto w0 tb L bs w') ∨
       (∃ pre post, L = pre ++ x :: post ∧ e = .returned (.tuple #[.int .i64 pre.length, .bool true]) ∧ Sto w0 tb (pre ++ post) bs w') := by
  obtain ⟨S, h1, h2, h3, h4⟩ := h
  refine (tree_remove h1 x hx small).mono ?_
  rintro e w' ⟨he, hk⟩
  have hr : Below w0.heap.size w0 w' ∧ ∀ q ∈ bs, OBox w' q.1 q.2 ∧ ¬ S q.1 := ⟨h3.trans (hk.below h3.size h2), fun q hq => ⟨(h4 q hq).1.kp hk (h4 q hq).2, (h4 q hq).2⟩⟩
  rcases he with ⟨a, b, c⟩ | ⟨pre, post, a, b, c⟩
  · exact .inl ⟨a, b, S, c, h2, hr⟩
  · exact .inr ⟨pre, post, a, b, S, c, h2, hr⟩
theorem sto_all (h : Sto w0 tb L bs w) (small : L.length ≤ 1000000) : Calls Try.prog 23 #[.pointer (some ⟨tb, 0, .none⟩)] w fun e w' =>
    (∃ a c, e = .returned (.slice a L.length c)) ∧ (∃ v, e = .returned v ∧ w'.ownsRow w.heap.size 34 2 v L.length (flatH L) ∧ (v = .slice .none 0 0 ↔ L = [])) ∧ Sto w0 tb L bs w' := by
  have h0 := h
  obtain ⟨S, h1, h2, h3, h4⟩ := h
  refine (tree_all h1 small).mono ?_
  rintro e w' ⟨v, rfl, hr, hn, hb⟩
  refine ⟨?_, ⟨v, rfl, hr, hn⟩, h0.kp ⟨hb.os, hb.tape, hb.output, hb.size, fun k hk _ => hb.block k hk⟩⟩
  cases hL : L.length with
  | zero =>
    rw [hn.2 (List.length_eq_zero_iff.1 hL)]
    exact ⟨_, _, rfl⟩
  | succ k =>
    rw [hL] at hr
    obtain ⟨g, cap, rfl⟩ := ownsRow_succ hr
    exact ⟨_, _, rfl⟩
theorem sto_one (h : Sto w0 tb L bs w) (n : Int) : Calls Try.prog 19 #[.int .i64 n] w fun e w' => e = .returned (.agg #[.int .i64 n, .int .u64 1]) ∧ Sto w0 tb L bs w' := by
  refine (one_any n w).mono ?_
  rintro e w' ⟨he, hk⟩
  exact ⟨he, h.kp hk⟩
end
end Go.Proofs.Ytimhbnlgambcaaa
