/- The walks of tells, each, All: the handles in order, collected. -/
import Derived.RangeFuncBox
import Derived.RangeFuncNested
import Derived.RangeFuncLeaves
import Derived.RangeFuncKeeps
import Derived.RangeFuncBound
import Derived.Shelf.Abstract
import Derived.OwnWalkIn
import Derived.TacticsInMore
import Derived.LoopNIn
import Derived.LoopIn
import Derived.Maps.AppendAt
import Derived.Test.YtimhbnlgambcaaaTF
namespace Go.Proofs.Ytimhbnlgambcaaa
open Go.RowKit Go.Shelf

attribute [local go_sem] Oper.semAt_some

theorem room_of_none {F : Fence} (hd : F.depth = .none) (k : Nat) : F.room k := fun d h => by rw [hd] at h; cases h
theorem roundIn_anyDepth {F : Fence} (hd : F.depth = .none) {m m' : Nat} {P : Program} {l : Nat} {f : FuncId} {tmps : Array Value} {assign body : Code} {w : World} {R : Ending → World → Prop}
    (h : RoundIn F m P l f tmps assign body w R) : RoundIn F m' P l f tmps assign body w R := ⟨h.1, fun c cs _ => h.2 c cs (room_of_none hd _)⟩
theorem yieldAt_anyDepth {F : Fence} (hd : F.depth = .none) {m : Nat} (m' : Nat) {P : Program} {l : Nat} {args : Array Value} {W : World} {R : Ending → World → Prop} (h : YieldAt F m P l args W R) : YieldAt F m' P l args W R := by
  obtain ⟨fn, tmps, assign, body, hy, hR⟩ := h
  exact ⟨fn, tmps, assign, body, hy, roundIn_anyDepth hd hR⟩

/-- The heap holds the tree T at p, in blocks below n₀: what tells reads of it. -/
def IsTree (n₀ : Nat) (W : World) : Option Addr → TT → Prop
  | p, .leaf => p = .none
  | p, .node b h _ l r => ∃ (pl pr : Option Addr), p = some ⟨b, 0, .none⟩ ∧ b < n₀ ∧ W.cell? ⟨b, 0, .none⟩ = some (.int .i64 h.s) ∧ W.cell? ⟨b, 1, .none⟩ = some (.int .u64 h.g) ∧ W.cell? ⟨b, 2, .none⟩ = some (.pointer pl) ∧ W.cell? ⟨b, 3, .none⟩ = some (.pointer pr) ∧ IsTree n₀ W pl l ∧ IsTree n₀ W pr r

theorem IsTree.below {n₀ : Nat} {A B : World} (h : Below n₀ A B) : ∀ {p : Option Addr} {T : TT}, IsTree n₀ A p T → IsTree n₀ B p T
  | _, .leaf, ht => ht
  | _, .node b _ _ _ _, ⟨pl, pr, hp, hb, h0, h1, h2, h3, hl, hr⟩ => ⟨pl, pr, hp, hb, (h.cell (p := ⟨b, 0, .none⟩) hb).trans h0, (h.cell (p := ⟨b, 1, .none⟩) hb).trans h1, (h.cell (p := ⟨b, 2, .none⟩) hb).trans h2, (h.cell (p := ⟨b, 3, .none⟩) hb).trans h3, IsTree.below h hl, IsTree.below h hr⟩

theorem isTree_of {n₀ : Nat} {W : World} {H : Hp} (hl : Lies W H) (hn : W.heap.size ≤ n₀) : ∀ {up : Option Nat} {T : TT}, Holds H up T → IsTree n₀ W (adr T.ptr) T
  | _, .leaf, _ => rfl
  | _, .node b _h _red l r, ⟨h1, h2, h3⟩ =>
    ⟨adr l.ptr, adr r.ptr, rfl, Nat.lt_of_lt_of_le (hl b _ h1).lt hn, (hl b _ h1).c0, (hl b _ h1).c1, (hl b _ h1).c2, (hl b _ h1).c3, isTree_of hl hn h2, isTree_of hl hn h3⟩

set_option maxRecDepth 100000 in
set_option maxHeartbeats 2000000 in
theorem tells_in (F : Fence) (hd : F.depth = .none) (h6 : F.fn 75) (hro : F.round = .none) (l n₀ N : Nat) (J Jx : List Hd → World → Prop)
    (hY : ∀ m pre x W, J pre W → pre.length < N → YieldAt F m Try.prog l #[.agg #[.int .i64 x.s, .int .u64 x.g]] W fun e W' =>
      (e = .returned (.bool true) ∧ J (pre ++ [x]) W' ∧ Below n₀ W W') ∨ (e = .returned (.bool false) ∧ Jx (pre ++ [x]) W')) (T : TT) :
    ∀ (n : Nat) (p : Option Addr) (pre : List Hd) (W : World), IsTree n₀ W p T → J pre W → pre.length + T.ord.length ≤ N →
      CallsIn F n Try.prog 75 #[.pointer p, .func (.yield l) #[] #[]] W fun e W' =>
        (e = .returned (.bool true) ∧ J (pre ++ T.ord) W' ∧ Below n₀ W W') ∨ (e = .returned (.bool false) ∧ ∃ q, q <+: T.ord ∧ Jx (pre ++ q) W') := by
  induction T with
  | leaf =>
    intro n p pre W ht hJ _
    obtain rfl : p = .none := ht
    refine callsIn_of_wp Try.func75 rfl h6 ?_ hro
    simp only [Try.ntmps75, List.size_toArray, List.length_cons, List.length_nil, Nat.reduceAdd, Nat.reduceSub, Array.replicate_succ, Array.replicate_zero, List.push_toArray, List.append_toArray, List.nil_append, List.cons_append]
    gi_wp2_with ((with_reducible refine ⟨fun _ (hx : (Option.none : Option FuncId) = some _) => (by cases hx), ?_⟩))
    all_goals try (exfalso; rename some undef = some (Value.bool _) => hbad; cases hbad; done)
    go_ret
    exact .inl ⟨rfl, by simpa [TT.ord] using hJ, Below.refl _ _⟩
  | node b hh red tl tr ihl ihr =>
    intro n p pre W ht hJ hN
    obtain ⟨pl, pr, rfl, hb, c0, c1, c2, c3, hl, hr⟩ := ht
    have hdd : ∀ k : Nat, (F.depth.isSome = true → 1 ≤ k) := fun k h => by rw [hd] at h; cases h
    simp only [TT.ord, List.length_append, List.length_cons] at hN
    have hy2 : ∀ W1, J (pre ++ tl.ord) W1 → Below n₀ W W1 → YieldAt F (n - 1) Try.prog l #[.agg #[.int .i64 hh.s, .int .u64 hh.g]] W1 fun e W2 =>
        (e = .returned (.bool true) ∧ J (pre ++ tl.ord ++ [hh]) W2 ∧ Below n₀ W W2 ∧ W2.cell? ⟨b, 3, .none⟩ = some (.pointer pr) ∧ IsTree n₀ W2 pr tr) ∨ (e = .returned (.bool false) ∧ Jx (pre ++ tl.ord ++ [hh]) W2) := fun W1 hJ1 hb1 =>
      YieldAt.mono (hY (n - 1) _ hh W1 hJ1 (by simp; omega)) fun e W2 h => h.elim
        (fun ⟨he, hj, hb2⟩ => .inl ⟨he, hj, hb1.trans hb2, ((hb1.trans hb2).cell (p := ⟨b, 3, .none⟩) hb).trans c3, hr.below (hb1.trans hb2)⟩) .inr
    have ih1 := (ihl (n - 1) pl pre W hl hJ (by omega)).mono (R' := fun e W1 =>
        (e = .returned (.bool true) ∧ W1.cell? ⟨b, 0, .none⟩ = some (.int .i64 hh.s) ∧ W1.cell? ⟨b, 1, .none⟩ = some (.int .u64 hh.g) ∧ YieldAt F (n - 1) Try.prog l #[.agg #[.int .i64 hh.s, .int .u64 hh.g]] W1 fun e W2 =>
          (e = .returned (.bool true) ∧ J (pre ++ tl.ord ++ [hh]) W2 ∧ Below n₀ W W2 ∧ W2.cell? ⟨b, 3, .none⟩ = some (.pointer pr) ∧ IsTree n₀ W2 pr tr) ∨ (e = .returned (.bool false) ∧ Jx (pre ++ tl.ord ++ [hh]) W2)) ∨
        (e = .returned (.bool false) ∧ ∃ q, q <+: tl.ord ∧ Jx (pre ++ q) W1))
      (fun e W1 h => h.elim (fun ⟨he, hj, hb1⟩ => .inl ⟨he, (hb1.cell (p := ⟨b, 0, .none⟩) hb).trans c0, (hb1.cell (p := ⟨b, 1, .none⟩) hb).trans c1, hy2 W1 hj hb1⟩) .inr)
    clear hy2 ihl
    refine callsIn_of_wp Try.func75 rfl h6 ?_ hro
    simp only [Try.ntmps75, List.size_toArray, List.length_cons, List.length_nil, Nat.reduceAdd, Nat.reduceSub, Array.replicate_succ, Array.replicate_zero, List.push_toArray, List.append_toArray, List.nil_append, List.cons_append]
    gi_wp2_with (first
      | ((try refine ⟨hdd _, ?_⟩); gi_at_call 75; refine ih1.mono ?_; clear ih1; rintro e W1 (⟨rfl, c0', c1', fn, tmps, assign, body, hy, hR⟩ | ⟨rfl, q, hq, hx1⟩))
      | ((try refine ⟨hdd _, ?_⟩); refine hR.mono ?_; clear hR; rintro e W2 (⟨rfl, hJ2, hb2, c3', hr2⟩ | ⟨rfl, hx2⟩))
      | ((try refine ⟨hdd _, ?_⟩); gi_at_call 75; refine (ihr (n - 1) pr _ _ hr2 hJ2 (by simp; omega)).mono ?_; rintro e W3 (⟨rfl, hJ3, hb3⟩ | ⟨rfl, q, hq, hx3⟩)))
    · go_ret
      exact .inl ⟨rfl, by simpa [TT.ord, List.append_assoc] using hJ3, hb2.trans hb3⟩
    · go_ret
      obtain ⟨r, hr'⟩ := hq
      exact .inr ⟨rfl, tl.ord ++ hh :: q, ⟨r, by simp [TT.ord, ← hr']⟩, by simpa [List.append_assoc] using hx3⟩
    · go_ret
      exact .inr ⟨rfl, tl.ord ++ [hh], ⟨tr.ord, by simp [TT.ord]⟩, by simpa [List.append_assoc] using hx2⟩
    · gi_wp2_with ((with_reducible refine ⟨fun _ (hx : (Option.none : Option FuncId) = some _) => (by cases hx), ?_⟩))
      all_goals try (exfalso; rename some undef = some (Value.bool _) => hbad; cases hbad; done)
      go_ret
      exact .inr ⟨rfl, q, hq.trans (by simp [TT.ord]), hx1⟩

set_option maxRecDepth 100000 in
set_option maxHeartbeats 1000000 in
theorem each1_in (F : Fence) (hd : F.depth = .none) (n : Nat) (h5 : F.fn 74) (h6 : F.fn 75) (hro : F.round = .none) (l Bt n₀ : Nat) (p0 : Option Addr) (T : TT) (J Jx : List Hd → World → Prop)
    (hY : ∀ pre x W, J pre W → pre.length < T.ord.length → YieldAt F (n - 1) Try.prog l #[.agg #[.int .i64 x.s, .int .u64 x.g]] W fun e W' =>
      (e = .returned (.bool true) ∧ J (pre ++ [x]) W' ∧ Below n₀ W W') ∨ (e = .returned (.bool false) ∧ Jx (pre ++ [x]) W'))
    (W : World) (hBt : W.cell? ⟨Bt, 0, .none⟩ = some (.pointer p0)) (hT : IsTree n₀ W p0 T) (h0 : J [] W) :
    CallsIn F n Try.prog 74 #[.func (.yield l) #[] #[], .pointer (some ⟨Bt, 0, .none⟩)] W fun e W' => (∃ v, e = .returned v) ∧
      ((∃ ys, ys = T.ord ∧ J ys W') ∨ (∃ pre, pre <+: T.ord ∧ Jx pre W')) := by
  have hdd : ∀ k : Nat, (F.depth.isSome = true → 1 ≤ k) := fun k h => by rw [hd] at h; cases h
  have hp := tells_in F hd h6 hro l n₀ T.ord.length J Jx (fun m pre x W hj hl => yieldAt_anyDepth hd m (hY pre x W hj hl)) T (n - 1) p0 [] W hT h0 (by simp)
  refine callsIn_of_wp Try.func74 rfl h5 ?_ hro
  simp only [Try.ntmps74, List.size_toArray, List.length_cons, List.length_nil, Nat.reduceAdd, Nat.reduceSub, Array.replicate_succ, Array.replicate_zero, List.push_toArray, List.append_toArray, List.nil_append, List.cons_append]
  gi_wp2_with ((try refine ⟨hdd _, ?_⟩); gi_at_call 75; refine hp.mono ?_; clear hp; rintro e W1 (⟨rfl, hJ1, _⟩ | ⟨rfl, q, hq, hx⟩))
  · go_end0
    exact ⟨⟨_, rfl⟩, .inl ⟨_, rfl, by simpa using hJ1⟩⟩
  · go_end0
    exact ⟨⟨_, rfl⟩, .inr ⟨q, hq, by simpa using hx⟩⟩

set_option maxRecDepth 100000 in
set_option maxHeartbeats 1000000 in
theorem each_in (F : Fence) (n : Nat) (h4 : F.fn 51) (hro : F.round = .none) (p0 : Option Addr) (w : World) :
    CallsIn F n Try.prog 51 #[.pointer p0] w fun e w' => e = .returned (.func (.func 74) #[] #[.pointer (some ⟨w.heap.size, 0, .none⟩)]) ∧ w' = w.alloc (.cells #[.pointer p0] 89) := by
  refine callsIn_of_wp Try.func51 rfl h4 ?_ hro
  simp only [Try.ntmps51, List.size_toArray, List.length_cons, List.length_nil, Nat.reduceAdd, Nat.reduceSub, Array.replicate_succ, Array.replicate_zero, List.push_toArray, List.append_toArray, List.nil_append, List.cons_append]
  gi_wp2
  go_ret
  exact ⟨rfl, rfl⟩

theorem each_stops (F : Fence) (hd : F.depth = .none) (n : Nat) (h5 : F.fn 74) (h6 : F.fn 75) (hro : F.round = .none) (Bt n₀ : Nat) (p0 : Option Addr) (T : TT) (w : World) (hBt : Bt < w.heap.size) (hn₀ : n₀ ≤ w.heap.size)
    (hc : w.cell? ⟨Bt, 0, .none⟩ = some (.pointer p0)) (hT : IsTree n₀ w p0 T) :
    SeqStopsK F n Try.prog 74 #[.pointer (some ⟨Bt, 0, .none⟩)] (fun x : Hd => #[Value.agg #[.int .i64 x.s, .int .u64 x.g]]) (Below n₀) (fun ys => ys = T.ord) (fun pre => pre <+: T.ord) T.ord.length w := fun l J Jx W hW _ _ hY h0 =>
  each1_in F hd n h5 h6 hro l Bt n₀ p0 T J Jx hY W ((hW.cell (p := ⟨Bt, 0, .none⟩) hBt).trans hc) (hT.below (hW.mono hn₀)) h0

theorem info34 : (Try.prog.info? 34).map (fun i => (i.zero, i.size, i.bytes)) = some (some (.agg #[.int .i64 0, .int .u64 0]), 2, 16) := by kernel_rfl

/-- The cells of a row of handles. -/
def flatH (l : List Hd) : List Value := l.flatMap fun h => [.int .i64 h.s, .int .u64 h.g]

theorem flatH_len (l : List Hd) : (flatH l).length = l.length * 2 := by
  induction l with
  | nil => rfl
  | cons a l ih => simp [flatH] at ih ⊢; omega
theorem flatH_snoc (l : List Hd) (x : Hd) : flatH (l ++ [x]) = flatH l ++ [.int .i64 x.s, .int .u64 x.g] := by simp [flatH]

/-- A block of two cells that holds a handle. -/
def HBox (W : World) (B : Nat) (h : Hd) : Prop := W.heap[B]? = some (.cells #[.int .i64 h.s, .int .u64 h.g] 34 (0, 0))
theorem HBox.lt {W : World} {B : Nat} {h : Hd} (hb : HBox W B h) : B < W.heap.size := lt_of_block hb
theorem HBox.c0 {W : World} {B : Nat} {h : Hd} (hb : HBox W B h) : W.cell? ⟨B, 0, .none⟩ = some (.int .i64 h.s) := by simp [World.cell?, show W.heap[B]? = _ from hb]
theorem HBox.c1 {W : World} {B : Nat} {h : Hd} (hb : HBox W B h) : W.cell? ⟨B, 1, .none⟩ = some (.int .u64 h.g) := by simp [World.cell?, show W.heap[B]? = _ from hb]
theorem HBox.own (base Bx : Nat) (h : Hd) : OwnFrom base (fun (_ : Unit) W => HBox W Bx h) := by
  intro s X Y row hb hg hr
  refine (hg.block Bx hb.lt (fun e => ?_)).trans hb
  obtain ⟨o, ho, hc⟩ := (hr Bx e.symm).2
  rw [show X.heap[Bx]? = _ from hb] at ho
  cases ho
  cases hc
theorem cells_two_new (w : World) (x y : Value) (t : TypeId) : ∀ j u, [x, y][j]? = some u → (w.alloc (.cells #[x, y] t)).cell? ((⟨w.heap.size, 0, .none⟩ : Addr).add j) = some u := by
  intro j u hj
  match j, hj with
  | 0, hj => simp at hj; subst hj; exact World.cell?_alloc_new w #[x, y] t 0
  | 1, hj => simp at hj; subst hj; exact World.cell?_alloc_new w #[x, y] t 1
  | j + 2, hj => simp at hj

set_option maxRecDepth 100000 in
set_option maxHeartbeats 2000000 in
theorem all_in (F : Fence) (hd : F.depth = .none) (n : Nat) (h3 : F.fn 23) (h4 : F.fn 51) (h5 : F.fn 74) (h6 : F.fn 75) (hro : F.round = .none) (hn : 3 ≤ n) (tb mb : Nat) (root : Option Nat) (T : TT) (w : World) (ht : TrAt w tb root mb) (hL : IsTree w.heap.size w (adr root) T) (hlen : T.ord.length ≤ 1000000) :
    CallsIn F n Try.prog 23 #[.pointer (some ⟨tb, 0, .none⟩)] w fun e W' => ∃ v, e = .returned v ∧ W'.ownsRow w.heap.size 34 2 v T.ord.length (flatH T.ord) ∧ (v = .slice .none 0 0 ↔ T.ord = []) ∧ Below w.heap.size w W' := by
  have h1 : 1 ≤ n := by omega
  obtain ⟨i0, hi, hz0, hz1, hz2⟩ := info_parts info34
  have t0 := ht.c0
  have tl := ht.lt
  refine callsIn_of_wp_marks Try.func23 rfl h3 ?_ hro
  simp only [Try.ntmps23, List.size_toArray, List.length_cons, List.length_nil, Nat.reduceAdd, Nat.reduceSub, Array.replicate_succ, Array.replicate_zero, List.push_toArray, List.append_toArray, List.nil_append, List.cons_append]
  gi_wp2_with (gi_at_call 51; refine (each_in F (n - 1) h4 hro _ _).mono ?_; rintro e w' ⟨rfl, rfl⟩)
  have bO := Boxed.new w 27 (.slice .none 0 0)
  have bN := Boxed.new (w.alloc (.cells #[.slice .none 0 0] 27)) 89 (.pointer (adr root))
  rw [World.size_alloc] at bN
  have hB0 : Below w.heap.size w ((w.alloc (.cells #[.slice .none 0 0] 27)).alloc (.cells #[.pointer (adr root)] 89)) := ((Below.refl _ w).alloc (Nat.le_refl _) _).alloc (by simp) _
  refine wpIn_rangeFunc_ownH hro h1 (gf := 74) (lb := #[.pointer (some ⟨w.heap.size + 1, 0, .none⟩)]) rfl h5 (enters_of Try.func74 (by kernel_rfl) rfl)
    (each_stops F hd (n - 1) h5 h6 hro (w.heap.size + 1) w.heap.size (adr root) T _ (by simp) (by simp; omega) bN.cell (hL.below hB0)) belowK_t (belowK_b (by simp; omega)) (Below.refl _ _) (fun _ => rfl)
    (fun pre W => (∃ v, Boxed W w.heap.size 27 v ∧ W.ownsRow w.heap.size 34 2 v pre.length (flatH pre) ∧ (v = .slice .none 0 0 ↔ pre = [])) ∧ Below w.heap.size w W)
    (fun _ _ _ => False)
    (OwnFrom.and (Own.from (holdsRow_own w.heap.size w.heap.size 27 34 2 (fun pre : List Hd => pre.length) flatH (fun pre v => v = .slice .none 0 0 ↔ pre = [])) _) (ownFrom_below (Nat.le_refl _) (by simp; omega)))
    (fun _ _ _ _ _ hs _ _ => hs)
    ⟨⟨_, bO.alloc _, World.ownsRow_nil _ _ _ _, by simp⟩, hB0⟩
    (fun x a' W => ∃ Bx, w.heap.size < Bx ∧ HBox W Bx x ∧ a' = { tmps := #[.pointer (some ⟨tb, 0, .none⟩), undef, .slice .none 0 0, .pointer (some ⟨w.heap.size, 0, .none⟩), .pointer (some ⟨Bx, 0, .none⟩), .pointer (some ⟨tb, 0, .none⟩), .bool false, .pointer (some ⟨tb, 0, .none⟩), .pointer (some ⟨tb, 0, .none⟩), .pointer (some ⟨tb, 0, .none⟩), .pointer (adr root), .func (.func 74) #[] #[.pointer (some ⟨w.heap.size + 1, 0, .none⟩)], .agg #[.int .i64 x.s, .int .u64 x.g], undef, undef, undef, undef, undef], defers := [] })
    (fun x a' _ X Y row hs hg hr => by obtain ⟨Bx, h1, h2, h3⟩ := hs; exact ⟨Bx, h1, HBox.own _ Bx x () X Y row h2 hg hr, h3⟩)
    ?assign ?body ?done ?stop
  case assign =>
    rintro l pre x W K ⟨⟨v, hv, hrow, hnil⟩, hB⟩ hK
    gi_wp2
    exact hK _ _ ((KeepsOthers.alloc _ _).from _) ((Below.refl _ W).alloc hB.size _) ⟨⟨v, hv.alloc _, hrow.alloc _, hnil⟩, hB.alloc hB.size _⟩ ⟨W.heap.size, hv.lt, World.alloc_heap_new _ _, rfl⟩
  case body =>
    rintro l pre x a' W hl ⟨r, hr⟩ ⟨⟨v, hv, hrow, hnil⟩, hB⟩ ⟨Bx, hBx, hX, rfl⟩ hlt
    have hc := hv.cell
    have x0 := hX.c0
    have x1 := hX.c1
    gi_wp2_with (gi_at_builtin; refine wpListIn_append_own _ rfl _ _ 27 rfl w.heap.size 34 i0 (.agg #[.int .i64 0, .int .u64 0]) 2 16 Try.underlying27 hi hz0 hz1 hz2 rfl (by decide) _ _ _ rfl (hrow.alloc _) ⟨W.heap.size, 0, .none⟩ 1 1 [.int .i64 x.s, .int .u64 x.g] rfl rfl (cells_two_new _ _ _ _) (by simp [Value.oneCell']) (by unfold maxLen; omega) (by omega) (by have := hB.size; simp; omega) ?_; intro v' w1 hown' hgrow _; obtain ⟨g', cap', rfl⟩ := ownsRow_succ hown'; obtain ⟨hv1, hv2, hr2, hk2, hb2⟩ := hv.appended (by decide) hrow hB.size (Nat.le_refl _) hown' hgrow; have hc1 := hv1.cell; have hf1 := hv1.frozen)
    exact ⟨hk2.from _, hb2, ⟨_, hv2, by rw [flatH_snoc]; simpa using hr2, by simp⟩, hB.trans hb2⟩
  case done =>
    rintro D ys W hD rfl ⟨⟨v, hv, hrow, hnil⟩, hB⟩ hK
    have hc := hv.cell
    gi_wp2
    refine ⟨by simp, .inl ⟨_, _, rfl, run_takeDeferred hK, ?_⟩⟩
    exact ⟨_, results_tmp rfl _ _ _, v, rfl, ownsRow_putObj hrow _ hK rfl, hnil, hB.trans (belowK_b (w := w) (Nat.le_refl _) W D _ _ (by simp at hD; omega) hK rfl rfl)⟩
  case stop =>
    rintro D c pre W _ _ h _
    exact h.elim

/-- All of a tree: its handles in order, in a row of new memory. -/
theorem all_any (w : World) (tb mb : Nat) (root : Option Nat) (H : Hp) (T : TT) (hR : TR w tb mb root H) (hT : Holds H .none T) (hp : root = T.ptr) (hlen : T.ord.length ≤ 1000000) :
    Calls Try.prog 23 #[.pointer (some ⟨tb, 0, .none⟩)] w fun e W' => ∃ v, e = .returned v ∧ W'.ownsRow w.heap.size 34 2 v T.ord.length (flatH T.ord) ∧ (v = .slice .none 0 0 ↔ T.ord = []) ∧ Below w.heap.size w W' := by
  subst hp
  refine (callsIn_wide (n := 3)).1 ?_
  exact all_in _ rfl 3 trivial trivial trivial trivial rfl (Nat.le_refl _) tb mb _ T w hR.t (isTree_of hR.h (Nat.le_refl _) hT) hlen

end Go.Proofs.Ytimhbnlgambcaaa
