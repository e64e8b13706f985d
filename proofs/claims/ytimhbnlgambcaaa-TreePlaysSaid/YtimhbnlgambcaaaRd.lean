/- Tree and reference, side by side: the state, each call's contract in its words, the walk of alike. -/
import Derived.Test.YtimhbnlgambcaaaRc
namespace Go.Proofs.Ytimhbnlgambcaaa
open Go.RowKit Go.BigFrame

/-- Since w0 nothing old has turned; at tb lies a tree of L, at rb the reference's list M, apart; beside both the blocks bs hold what they hold. -/
def PL (w0 : World) (tb rb : Nat) (L M : List Hd) (bs : List (Nat × Obj)) (w : World) : Prop :=
  ∃ S v, TreeAt w tb S L ∧ (∀ k, S k → w0.heap.size ≤ k) ∧ Below w0.heap.size w0 w ∧ w0.heap.size ≤ rb ∧ w.heap[rb]? = some (.cells #[v] 31 (0, 0)) ∧ w.ownsRow w0.heap.size 34 2 v M.length (flatH M) ∧
    ¬ S rb ∧ (∀ g, v.ownBlock = some g → ¬ S g) ∧ ∀ q ∈ bs, OBox w q.1 q.2 ∧ ¬ S q.1 ∧ q.1 ≠ rb

section
variable {w0 w w' : World} {tb rb : Nat} {L M : List Hd} {bs : List (Nat × Obj)}

theorem own_kp {R : Nat → Prop} {base : Nat} {e : TypeId} {size : Nat} {v : Value} {n : Nat} {xs : List Value} (h : w.ownsRow base e size v n xs) (hk : Kp R w w') (hR : ∀ g, v.ownBlock = some g → ¬ R g) : w'.ownsRow base e size v n xs := by
  rcases h.2 with ⟨rfl, hn⟩ | ⟨g, cap, cur, rfl, h1, h2, h3⟩
  · exact ⟨h.1, .inl ⟨rfl, hn⟩⟩
  · exact ⟨h.1, .inr ⟨g, cap, cur, rfl, h1, (hk.block g (lt_of_block h2) (hR g rfl)).trans h2, h3⟩⟩

theorem PL.rl (h : PL w0 tb rb L M bs w) : RL w w0.heap.size rb M := by
  obtain ⟨S, v, h1, h2, h3, h4, h5, h6, h7, h8, h9⟩ := h
  exact ⟨v, h5, h6⟩
theorem PL.kp (h : PL w0 tb rb L M bs w) (hk : Kp (fun _ => False) w w') : PL w0 tb rb L M bs w' := by
  obtain ⟨S, v, h1, h2, h3, h4, h5, h6, h7, h8, h9⟩ := h
  exact ⟨S, v, h1.kp hk (fun _ _ h => h), h2, h3.trans (hk.below h3.size (fun _ h => h.elim)), h4, (hk.block rb (lt_of_block h5) (fun h => h)).trans h5, own_kp h6 hk (fun _ _ h => h), h7, h8, fun q hq => ⟨(h9 q hq).1.kp hk (fun h => h), (h9 q hq).2⟩⟩
theorem PL.drew (h : PL w0 tb rb L M bs w) : PL w0 tb rb L M bs w.drew := h.kp (Kp.refl _ _).drew
theorem PL.drewN (h : PL w0 tb rb L M bs w) (n : Nat) : PL w0 tb rb L M bs (w.drewN n) := h.kp ((Kp.refl _ _).drewN n)
theorem PL.alloc (h : PL w0 tb rb L M bs w) (o : Obj) : PL w0 tb rb L M bs (w.alloc o) := h.kp ((Kp.refl _ _).alloc o)
theorem PL.box (h : PL w0 tb rb L M bs w) (o : Obj) : PL w0 tb rb L M ((w.heap.size, o) :: bs) (w.alloc o) := by
  obtain ⟨S, v, h1, h2, h3, h4, h5, h6, h7, h8, h9⟩ := h.alloc o
  obtain ⟨S', v', h1', h2', h3', h4', h5', h6', h7', h8', h9'⟩ := h
  have hk : Kp (fun _ => False) w (w.alloc o) := (Kp.refl _ _).alloc _
  refine ⟨S', v', h1'.alloc _, h2', h3, h4, (hk.block rb (lt_of_block h5') (fun h => h)).trans h5', own_kp h6' hk (fun _ _ h => h), h7', h8', ?_⟩
  intro q hq
  rcases List.mem_cons.1 hq with rfl | hq
  · exact ⟨heap_alloc_new _ _, fun hs => Nat.lt_irrefl _ (h1'.lt hs), fun e => by have := lt_of_block h5'; simp at e; omega⟩
  · exact ⟨(h9' q hq).1.kp hk (fun h => h), (h9' q hq).2⟩
theorem PL.less (h : PL w0 tb rb L M bs w) {bs' : List (Nat × Obj)} (hs : ∀ q ∈ bs', q ∈ bs) : PL w0 tb rb L M bs' w := by
  obtain ⟨S, v, h1, h2, h3, h4, h5, h6, h7, h8, h9⟩ := h
  exact ⟨S, v, h1, h2, h3, h4, h5, h6, h7, h8, fun q hq => h9 q (hs q hq)⟩
theorem PL.below (h : PL w0 tb rb L M bs w) : Below w0.heap.size w0 w := by
  obtain ⟨S, v, h1, h2, h3, h4, h5, h6, h7, h8, h9⟩ := h
  exact h3
theorem PL.obox (h : PL w0 tb rb L M bs w) {b : Nat} {x : Obj} (hm : (b, x) ∈ bs) : OBox w b x := by
  obtain ⟨S, v, h1, h2, h3, h4, h5, h6, h7, h8, h9⟩ := h
  exact (h9 _ hm).1
theorem PL.nodup (h : PL w0 tb rb L M bs w) : L.Nodup := by
  obtain ⟨S, v, h1, h2, h3, h4, h5, h6, h7, h8, h9⟩ := h
  exact h1.nodup
theorem PL.ok (h : PL w0 tb rb L M bs w) : ∀ x ∈ L, x.ok := by
  obtain ⟨S, v, h1, h2, h3, h4, h5, h6, h7, h8, h9⟩ := h
  exact h1.ok
theorem PL.sto (h : PL w0 tb rb L M bs w) : Sto w0 tb L [] w := by
  obtain ⟨S, v, h1, h2, h3, h4, h5, h6, h7, h8, h9⟩ := h
  exact ⟨S, h1, h2, h3, by simp⟩

/-- What a call of the tree leaves of the rest. -/
theorem PL.tree (h : PL w0 tb rb L M bs w) : ∃ S, TreeAt w tb S L ∧ ∀ w' S' L', TreeAt w' tb S' L' → Kp S w w' → (∀ k, S' k → S k ∨ w.heap.size ≤ k) → PL w0 tb rb L' M bs w' := by
  obtain ⟨S, v, h1, h2, h3, h4, h5, h6, h7, h8, h9⟩ := h
  refine ⟨S, h1, fun w' S' L' hT hk hS => ?_⟩
  have hn : ∀ k, k < w.heap.size → ¬ S k → ¬ S' k := fun k hk hs hs' => (hS k hs').elim hs (fun h => by omega)
  refine ⟨S', v, hT, fun k hk' => (hS k hk').elim (h2 k) (fun h => Nat.le_trans h3.size h), h3.trans (hk.below h3.size h2), h4, (hk.block rb (lt_of_block h5) h7).trans h5, own_kp h6 hk h8, hn rb (lt_of_block h5) h7, fun g hg => hn g (h6.lt g hg).2 (h8 g hg), fun q hq => ?_⟩
  exact ⟨(h9 q hq).1.kp hk (h9 q hq).2.1, hn _ (h9 q hq).1.lt (h9 q hq).2.1, (h9 q hq).2.2⟩
/-- What a call of the reference leaves of the rest. -/
theorem PL.ref (h : PL w0 tb rb L M bs w) {w' : World} {M' : List Hd} (hR : RL w' w.heap.size rb M') (hk : Kp (fun k => k = rb) w w') : PL w0 tb rb L M' bs w' := by
  obtain ⟨S, v, h1, h2, h3, h4, h5, h6, h7, h8, h9⟩ := h
  obtain ⟨v', hv', ho⟩ := hR
  refine ⟨S, v', h1.kp hk (fun k hk' e => h7 (e ▸ hk')), h2, h3.trans (hk.below h3.size (fun k e => e ▸ h4)), h4, hv', rl_mono ho h3.size, h7, fun g hg hs => ?_, fun q hq => ?_⟩
  · have := (ho.lt g hg).1
    have := h1.lt hs
    omega
  · exact ⟨(h9 q hq).1.kp hk (h9 q hq).2.2, (h9 q hq).2⟩

theorem pl_at (h : PL w0 tb rb L M bs w) (i : Int) (small : L.length < 1099511627776) :
    Calls Try.prog 16 #[.pointer (some ⟨tb, 0, .none⟩), .int .i64 i] w fun e w' =>
      ((¬ (0 ≤ i ∧ i < L.length) ∧ e = .returned (.tuple #[.agg #[.int .i64 0, .int .u64 0], .bool false])) ∨ (∃ (j : Nat) (h : Hd), i = j ∧ L[j]? = some h ∧ e = .returned (.tuple #[.agg #[.int .i64 h.s, .int .u64 h.g], .bool true]))) ∧ PL w0 tb rb L M bs w' ∧ Kp (fun _ => False) w w' := by
  obtain ⟨S, hT, hf⟩ := h.tree
  refine (tree_at hT i small).mono ?_
  rintro e w' ⟨he, hT', hk⟩
  exact ⟨he, h.kp hk, hk⟩
theorem pl_index (h : PL w0 tb rb L M bs w) (x : Hd) (hx : x.ok) (small : L.length < 1099511627776) :
    Calls Try.prog 17 #[.pointer (some ⟨tb, 0, .none⟩), .agg #[.int .i64 x.s, .int .u64 x.g]] w fun e w' =>
      ((x ∉ L ∧ e = .returned (.tuple #[.int .i64 0, .bool false])) ∨ (∃ i : Nat, L[i]? = some x ∧ e = .returned (.tuple #[.int .i64 i, .bool true]))) ∧ PL w0 tb rb L M bs w' ∧ Kp (fun _ => False) w w' := by
  obtain ⟨S, hT, hf⟩ := h.tree
  refine (tree_index hT x hx small).mono ?_
  rintro e w' ⟨he, hT', hk⟩
  exact ⟨he, h.kp hk, hk⟩
theorem pl_insert (h : PL w0 tb rb L M bs w) (i : Int) (x : Hd) (hx : x.ok) (small : L.length + 1 < 1099511627776) :
    Calls Try.prog 14 #[.pointer (some ⟨tb, 0, .none⟩), .int .i64 i, .agg #[.int .i64 x.s, .int .u64 x.g]] w fun e w' =>
      e = .returned (.int .i64 (insErr L i x)) ∧ PL w0 tb rb (insList L i x) M bs w' := by
  obtain ⟨S, hT, hf⟩ := h.tree
  refine (tree_insert hT i x hx small).mono ?_
  rintro e w' ⟨he, S', hT', hk, hS⟩
  exact ⟨he, hf w' S' _ hT' hk hS⟩
theorem pl_remove (h : PL w0 tb rb L M bs w) (x : Hd) (hx : x.ok) (small : L.length < 1099511627776) :
    Calls Try.prog 12 #[.pointer (some ⟨tb, 0, .none⟩), .agg #[.int .i64 x.s, .int .u64 x.g]] w fun e w' =>
      (x ∉ L ∧ e = .returned (.tuple #[.int .i64 0, .bool false]) ∧ PL w0 tb rb L M bs w') ∨
       (∃ pre post, L = pre ++ x :: post ∧ e = .returned (.tuple #[.int .i64 pre.length, .bool true]) ∧ PL w0 tb rb (pre ++ post) M bs w') := by
  obtain ⟨S, hT, hf⟩ := h.tree
  refine (tree_remove hT x hx small).mono ?_
  rintro e w' ⟨he, hk⟩
  rcases he with ⟨a, b, c⟩ | ⟨pre, post, a, b, c⟩
  · exact .inl ⟨a, b, hf w' S _ c hk (fun k => .inl)⟩
  · exact .inr ⟨pre, post, a, b, hf w' S _ c hk (fun k => .inl)⟩
theorem pl_ref_insert (h : PL w0 tb rb L M bs w) (i : Int) (x : Hd) (nd : M.Nodup) (small : M.length ≤ 100000) :
    Calls Try.prog 15 #[.pointer (some ⟨rb, 0, .none⟩), .int .i64 i, .agg #[.int .i64 x.s, .int .u64 x.g]] w fun e w' =>
      e = .returned (.int .i64 (insErr M i x)) ∧ PL w0 tb rb L (insList M i x) bs w' := by
  have hlt : rb < w.heap.size := by obtain ⟨v, hv, _⟩ := h.rl; exact lt_of_block hv
  by_cases h1 : i < 0
  · refine (ref_insert_neg w w0.heap.size rb i x h1 hlt).mono ?_
    rintro e w' ⟨rfl, hk⟩
    simp only [insErr, insList, h1, true_or, if_true]
    exact ⟨trivial, h.kp hk⟩
  by_cases h2 : (M.length : Int) < i
  · refine (ref_insert_big w w0.heap.size rb M h.rl i x h2 small).mono ?_
    rintro e w' ⟨rfl, hk⟩
    simp only [insErr, insList, h2, or_true, if_true]
    exact ⟨trivial, h.kp hk⟩
  have hno : ¬ (i < 0 ∨ (M.length : Int) < i) := by omega
  by_cases h3 : x ∈ M
  · obtain ⟨k, hk⟩ := List.getElem?_of_mem h3
    refine (ref_insert_in w w0.heap.size rb M h.rl i x (by omega) (by omega) nd k hk small).mono ?_
    rintro e w' ⟨rfl, hk⟩
    simp only [insErr, insList, if_neg hno, if_pos h3]
    exact ⟨trivial, h.kp hk⟩
  · obtain ⟨j, rfl⟩ : ∃ j : Nat, i = j := ⟨i.toNat, by omega⟩
    refine (ref_insert_ok w w0.heap.size rb M h.rl j x (by omega) h3 small).mono ?_
    rintro e w' ⟨rfl, hR, hk⟩
    simp only [insErr, insList, if_neg hno, if_neg h3, Int.toNat_natCast]
    exact ⟨trivial, h.ref hR hk⟩
theorem pl_cut (h : PL w0 tb rb L M bs w) (i : Nat) (x : Hd) (hx : M[i]? = some x) (small : M.length ≤ 100000) :
    Calls Try.prog 13 #[.pointer (some ⟨rb, 0, .none⟩), .int .i64 i] w fun e w' => e = .returned (.agg #[.int .i64 x.s, .int .u64 x.g]) ∧ PL w0 tb rb L (M.take i ++ M.drop (i + 1)) bs w' := by
  refine (ref_cut w w0.heap.size rb M h.rl i x hx small).mono ?_
  rintro e w' ⟨rfl, hR, hk⟩
  exact ⟨rfl, h.ref hR hk⟩
theorem pl_at_in (h : PL w0 tb rb L M bs w) {i : Nat} {x : Hd} (hx : L[i]? = some x) (small : L.length < 1099511627776) :
    Calls Try.prog 16 #[.pointer (some ⟨tb, 0, .none⟩), .int .i64 i] w fun e w' => e = .returned (.tuple #[.agg #[.int .i64 x.s, .int .u64 x.g], .bool true]) ∧ PL w0 tb rb L M bs w' ∧ Kp (fun _ => False) w w' := by
  have hl := (List.getElem?_eq_some_iff.1 hx).1
  refine (pl_at h i small).mono ?_
  rintro e w' ⟨⟨a, rfl⟩ | ⟨j, y, a, b, rfl⟩, hS⟩
  · omega
  · obtain rfl : i = j := by omega
    rw [b] at hx
    cases hx
    exact ⟨rfl, hS⟩
theorem pl_at_out (h : PL w0 tb rb L M bs w) {i : Int} (hi : ¬ (0 ≤ i ∧ i < L.length)) (small : L.length < 1099511627776) :
    Calls Try.prog 16 #[.pointer (some ⟨tb, 0, .none⟩), .int .i64 i] w fun e w' => e = .returned (.tuple #[.agg #[.int .i64 0, .int .u64 0], .bool false]) ∧ PL w0 tb rb L M bs w' ∧ Kp (fun _ => False) w w' := by
  refine (pl_at h i small).mono ?_
  rintro e w' ⟨⟨a, rfl⟩ | ⟨j, y, a, b, rfl⟩, hS⟩
  · exact ⟨rfl, hS⟩
  · have := (List.getElem?_eq_some_iff.1 b).1
    omega
theorem pl_index_in (h : PL w0 tb rb L M bs w) {i : Nat} {x : Hd} (hx : L[i]? = some x) (small : L.length < 1099511627776) :
    Calls Try.prog 17 #[.pointer (some ⟨tb, 0, .none⟩), .agg #[.int .i64 x.s, .int .u64 x.g]] w fun e w' => e = .returned (.tuple #[.int .i64 i, .bool true]) ∧ PL w0 tb rb L M bs w' ∧ Kp (fun _ => False) w w' := by
  refine (pl_index h x (h.ok x (List.mem_of_getElem? hx)) small).mono ?_
  rintro e w' ⟨⟨a, rfl⟩ | ⟨j, b, rfl⟩, hS⟩
  · exact absurd (List.mem_of_getElem? hx) a
  · obtain rfl := nodup_at h.nodup hx b
    exact ⟨rfl, hS⟩
theorem pl_index_out (h : PL w0 tb rb L M bs w) {x : Hd} (hx : x ∉ L) (hk : x.ok) (small : L.length < 1099511627776) :
    Calls Try.prog 17 #[.pointer (some ⟨tb, 0, .none⟩), .agg #[.int .i64 x.s, .int .u64 x.g]] w fun e w' => e = .returned (.tuple #[.int .i64 0, .bool false]) ∧ PL w0 tb rb L M bs w' ∧ Kp (fun _ => False) w w' := by
  refine (pl_index h x hk small).mono ?_
  rintro e w' ⟨⟨a, rfl⟩ | ⟨j, b, rfl⟩, hS⟩
  · exact ⟨rfl, hS⟩
  · exact absurd (List.mem_of_getElem? b) hx
theorem cls_deep' (h : PL w0 tb rb L M bs w) (small : L.length < 100000) :
    ∃ d D : Nat, d ≤ 2 * D ∧ D ≤ 40 ∧
      (∀ w', Kp (fun _ => False) w w' → Calls Try.prog 20 #[.pointer (some ⟨tb, 0, .none⟩)] w' fun e w'' => e = .returned (.int .i64 d) ∧ ∃ n, w'' = w'.drewN n) ∧
      (∀ w', Kp (fun _ => False) w w' → Calls Try.prog 22 #[.pointer (some ⟨tb, 0, .none⟩)] w' fun e w'' => e = .returned (.int .i64 L.length) ∧ w' = w'') ∧
      (∀ w', Calls Try.prog 21 #[.int .i64 ((L.length : Int) + 1)] w' fun e w'' => e = .returned (.int .i64 D) ∧ w' = w'') := by
  obtain ⟨d, hd, _, hdeep⟩ := sto_deep h.sto (by omega)
  refine ⟨d, digs (L.length + 1), hd, digs_le 40 _ (by omega), hdeep, fun w' hk => (sto_len (h.kp hk).sto).mono fun e w h => ⟨h.1, h.2.symm⟩, fun w' => ?_⟩
  have := digits_any (L.length + 1) (by omega) w'
  rw [Int.natCast_add] at this
  exact this.mono fun e w h => ⟨h.1, h.2.symm⟩
theorem PL.more (h : PL w0 tb rb L M bs w) (hk : Kp (fun _ => False) w w') {g : Nat} {o : Obj} (hg : w.heap.size ≤ g) (ho : OBox w' g o) : PL w0 tb rb L M ((g, o) :: bs) w' := by
  obtain ⟨S, v, h1, h2, h3, h4, h5, h6, h7, h8, h9⟩ := h
  refine ⟨S, v, h1.kp hk (fun _ _ h => h), h2, h3.trans (hk.below h3.size (fun _ h => h.elim)), h4, (hk.block rb (lt_of_block h5) (fun h => h)).trans h5, own_kp h6 hk (fun _ _ h => h), h7, h8, fun q hq => ?_⟩
  rcases List.mem_cons.1 hq with rfl | hq
  · exact ⟨ho, fun hs => by have := h1.lt hs; simp at this; omega, fun e => by have := lt_of_block h5; simp at e; omega⟩
  · exact ⟨(h9 q hq).1.kp hk (fun h => h), (h9 q hq).2⟩
theorem pl_all (h : PL w0 tb rb L M bs w) (small : L.length ≤ 1000000) : Calls Try.prog 23 #[.pointer (some ⟨tb, 0, .none⟩)] w fun e w' =>
    ∃ A c bs', e = .returned (.slice A L.length c) ∧ (∀ q ∈ bs, q ∈ bs') ∧ PL w0 tb rb L M bs' w' ∧ Kp (fun _ => False) w w' ∧ ∀ i x, L[i]? = some x → ∃ g, A = some ⟨g, 0, .none⟩ ∧
      ∀ L' M' wr, PL w0 tb rb L' M' bs' wr → wr.cell? ⟨g, i * 2, .none⟩ = some (.int .i64 x.s) ∧ wr.cell? ⟨g, i * 2 + 1, .none⟩ = some (.int .u64 x.g) := by
  obtain ⟨S, hT, hf⟩ := h.tree
  refine (tree_all hT small).mono ?_
  rintro e w' ⟨v, rfl, hr, hn, hb⟩
  have hk : Kp (fun _ => False) w w' := ⟨hb.os, hb.tape, hb.output, hb.size, fun k hk _ => hb.block k hk⟩
  rcases hr.2 with ⟨rfl, h0⟩ | ⟨g, cap, cur, rfl, h1, h2, h3, h4, h5, h6⟩
  · refine ⟨.none, 0, bs, by rw [h0], fun _ h => h, h.kp hk, hk, fun i x hx => ?_⟩
    have := (List.getElem?_eq_some_iff.1 hx).1
    omega
  · refine ⟨_, cap, _, rfl, fun q hq => List.mem_cons_of_mem _ hq, h.more hk h1 h2, hk, fun i x hx => ⟨g, rfl, fun L' M' wr hp => ?_⟩⟩
    have hbx : wr.heap[g]? = some (.cells cur 34 (0, 0)) := hp.obox (by simp)
    have hl := (List.getElem?_eq_some_iff.1 hx).1
    have hle : i * 2 + 1 < L.length * 2 := by omega
    have e0 := (flatH_at hx).1
    have e1 := (flatH_at hx).2
    rw [← h6, List.getElem?_take_of_lt (by omega)] at e0 e1
    exact ⟨by simp [World.cell?, hbx, ← Array.getElem?_toList, e0], by simp [World.cell?, hbx, ← Array.getElem?_toList, e1]⟩
end

set_option maxRecDepth 100000 in
set_option maxHeartbeats 2000000 in
theorem alike_any (w0 w : World) (tb rb : Nat) (L : List Hd) (bs : List (Nat × Obj)) (h : PL w0 tb rb L L bs w) (small : L.length ≤ 1000) :
    Calls Try.prog 18 #[.pointer (some ⟨tb, 0, .none⟩), .pointer (some ⟨rb, 0, .none⟩)] w fun e w' => e = .returned (.bool true) ∧ PL w0 tb rb L L bs w' ∧ Kp (fun _ => False) w w' := by
  have hs : (L.length : Int) ≤ 1000 := by omega
  go_enter Try.func18, Try.ntmps18
  go_wp2_with fail
  refine (pl_all h (by omega)).mono ?_
  rintro e w1 ⟨A, c, bs', rfl, hsub, h1, k1, hrow⟩
  obtain ⟨a, cap, hc, hlt, hg⟩ := h1.rl.shape
  obtain ⟨d, D, hdD, hD, j20, j22, j21⟩ := cls_deep' h1 (by omega)
  have hd3 : decide ((2 : Int) * D < d) = false := decide_eq_false (by omega)
  have hd2 : (D : Int) ≤ 40 := by omega
  clear hg
  go_wp2_with fail
  refine (j22 _ (Kp.refl _ _)).mono ?_
  rintro e _ ⟨rfl, rfl⟩
  go_wp2_with fail
  refine (j20 _ (Kp.refl _ _)).mono ?_
  rintro e _ ⟨rfl, n, rfl⟩
  go_wp2_with fail
  refine (j21 _).mono ?_
  rintro e _ ⟨rfl, rfl⟩
  have h2 := h1.drewN n
  have k2 := k1.drewN n
  clear j20 j22 j21
  go_wp2_with fail
  go_loopg [6] L.length (fun k v wr => ∃ i : Nat, v = .int .i64 i ∧ i + k = L.length ∧ PL w0 tb rb L L bs' wr ∧ Kp (fun _ => False) w wr)
  case atStart => exact ⟨0, rfl, by omega, h2, k2⟩
  case round =>
    obtain ⟨i, rfl, hik, h3, k3⟩ := hrel
    clear h2 h1 hc hlt k1 k2
    cases gk with
    | zero =>
      have hi : ¬ (i : Int) < L.length := by omega
      go_wp2_with fail
      go_ret
      exact ⟨rfl, h3.less hsub, k3⟩
    | succ gk =>
      have hi : (i : Int) < L.length := by omega
      obtain ⟨x, hx⟩ : ∃ x, L[i]? = some x := ⟨_, List.getElem?_eq_getElem (by omega)⟩
      obtain ⟨g, rfl, hgc⟩ := hrow i x hx
      have hxh := Lib.hid hx
      have hgh := Lib.hid hgc
      have hrh := Lib.hid hrow
      clear hx hgc hrow
      go_wp2_with fail
      refine (pl_at_in h3 hxh.out (by omega)).mono ?_
      rintro e w4 ⟨rfl, h4, k4⟩
      obtain ⟨g0, g1⟩ := hgh.out L L w4 h4
      have gl := block_lt_of_cell g0
      simp only at gl
      go_wp2_with fail
      have k5 := (k3.trans k4).alloc (.cells #[.int .i64 x.s, .int .u64 x.g] 34)
      have h5 := h4.box (.cells #[.int .i64 x.s, .int .u64 x.g] 34)
      obtain ⟨B1, hB1⟩ : ∃ B1, w4.heap.size = B1 := ⟨_, rfl⟩
      simp only [hB1] at h5 k5 ⊢
      generalize w4.alloc (Obj.cells #[Value.int IntKind.i64 x.s, Value.int IntKind.u64 x.g] 34) = W1 at h5 k5 ⊢
      clear h4 hB1 g0 g1 gl
      refine (pl_index_in h5 hxh.out (by omega)).mono ?_
      rintro e w6 ⟨rfl, h6, k6⟩
      obtain ⟨g0, g1⟩ := hgh.out L L w6 (h6.less (fun _ h => List.mem_cons_of_mem _ h))
      have b0 := HBox.c0 (h := x) (h6.obox (b := B1) (by simp))
      have b1 := HBox.c1 (h := x) (h6.obox (b := B1) (by simp))
      obtain ⟨a', cap', hc', hlt', hg'⟩ := h6.rl.shape
      obtain ⟨g', rfl, hgl', r0, r1⟩ := hg' i x hxh.out
      have hlc : (L.length : Int) ≤ 1000 := by omega
      clear hg' h5
      go_wp2_with fail
      go_quiet (fail)
      go_wp2_with fail
      go_roundg gk
      case measure => omega
      case rel => exact ⟨i + 1, by push_cast; rfl, by omega, (h6.drewN _).less (fun _ h => List.mem_cons_of_mem _ h), (k5.trans k6).drewN _⟩
end Go.Proofs.Ytimhbnlgambcaaa
