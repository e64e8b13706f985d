/- The walk of TreeLow. -/
import Derived.Test.YtimhbnlgambcaaaLc
import Derived.Below
namespace Go.Proofs.Ytimhbnlgambcaaa
open Go.RowKit Go.BigFrame

/-- WHAT THE WALK IS TOLD OF A SLICE OF INTEGERS THAT CAME IN: it is nil; or it leads to a row of 'cap' cells, the numbers 'zs' (the first 'len' are its elements, the rest its spare room), each fitting its kind. -/
def IsRow (k : IntKind) (w : World) (a : Option Addr) (len cap : Nat) (zs : List Int) : Prop :=
  (a = none ∧ len = 0 ∧ cap = 0 ∧ zs = []) ∨
  ∃ x, a = some x ∧ len ≤ cap ∧ cap ≤ maxLen ∧ zs.length = cap ∧ (∀ i, i < zs.length → w.cell? (x.add i) = some (.int k (zs.getD i 0))) ∧ ∀ n ∈ zs, (Lit.int k n).wf = true

theorem IsRow.at {w : World} {a : Option Addr} {len cap : Nat} {z : List Int} (h : IsRow .u16 w a len cap z) {i : Nat} (hi : i < len) :
    ∃ (x : Addr) (v : Nat), a = some x ∧ v < 65536 ∧ ∀ wr, Below w.heap.size w wr → wr.cell? (x.add i) = some (.int .u16 v) := by
  rcases h with ⟨_, rfl, _, _⟩ | ⟨x, rfl, hl, hm, hz, hc, hw⟩
  · omega
  · have hi' : i < z.length := by omega
    have h1 := hc i hi'
    have h2 := hw (z.getD i 0) (by rw [List.getD_eq_getElem?_getD, List.getElem?_eq_getElem hi']; simp)
    have h3 : 0 ≤ z.getD i 0 ∧ z.getD i 0 ≤ 65535 := by
      simpa [Lit.wf, IntKind.min, IntKind.max, IntKind.signed, IntKind.bits] using h2
    refine ⟨x, (z.getD i 0).toNat, rfl, by omega, fun wr hb => ?_⟩
    rw [hb.cell (block_lt_of_cell h1), h1, Int.toNat_of_nonneg h3.1]

/-- Handles below n, each of generation 1. -/
def Ones (n : Nat) (L : List Hd) : Prop := ∀ h ∈ L, ∃ j : Nat, h = ⟨j, 1⟩ ∧ j < n

theorem Ones.ok {n : Nat} {L : List Hd} (h : Ones n L) (hn : n ≤ 1000) {x : Hd} (hx : x ∈ L) : x.ok := by
  obtain ⟨j, rfl, hj⟩ := h x hx
  exact ok_small _ _ (by omega)

theorem low_insert {w0 w : World} {tb : Nat} {L : List Hd} {i q : Nat} (hq : q ≤ i) (hL : L.length = i) (h1 : Ones i L) (hi : i < 1000) (h : St w0 tb L [] w) :
    Calls Try.prog 14 #[.pointer (some ⟨tb, 0, .none⟩), .int .i64 q, .agg #[.int .i64 i, .int .u64 1]] w fun e w' =>
      e = .returned (.int .i64 0) ∧ ∃ L', St w0 tb L' [] w' ∧ L'.length = i + 1 ∧ L'[q]? = some ⟨i, 1⟩ ∧ Ones (i + 1) L' := by
  have hn : (⟨i, 1⟩ : Hd) ∉ L := fun hm => by
    obtain ⟨j, e, hj⟩ := h1 _ hm
    cases e
    omega
  have c : ¬ ((q : Int) < 0 ∨ (L.length : Int) < q) := by omega
  refine (st_insert h q ⟨i, 1⟩ (ok_small _ _ (by omega)) (by omega)).mono ?_
  rintro e w' ⟨rfl, hS⟩
  rw [insErr, if_neg c, if_neg hn]
  rw [insList, if_neg c, if_neg hn] at hS
  refine ⟨rfl, _, hS, ?_, ?_, ?_⟩
  · simp; omega
  · rw [List.getElem?_append_right (by simp; omega)]
    have : q - (List.take (q : Int).toNat L).length = 0 := by rw [List.length_take]; omega
    rw [this]
    rfl
  · intro x hx
    rcases List.mem_append.1 hx with hx | hx
    · obtain ⟨j, e, hj⟩ := h1 x (List.mem_of_mem_take hx)
      exact ⟨j, e, by omega⟩
    · rcases List.mem_cons.1 hx with rfl | hx
      · exact ⟨i, rfl, by omega⟩
      · obtain ⟨j, e, hj⟩ := h1 x (List.mem_of_mem_drop hx)
        exact ⟨j, e, by omega⟩

theorem low_at {w0 w : World} {tb : Nat} {L : List Hd} {q : Nat} {x : Hd} (hq : L[q]? = some x) (hL : L.length < 1099511627776) (h : St w0 tb L [] w) :
    Calls Try.prog 16 #[.pointer (some ⟨tb, 0, .none⟩), .int .i64 q] w fun e w' =>
      e = .returned (.tuple #[.agg #[.int .i64 x.s, .int .u64 x.g], .bool true]) ∧ St w0 tb L [] w' := by
  refine (st_at h q hL).mono ?_
  rintro e w' ⟨⟨a, rfl⟩ | ⟨j, y, a, b, rfl⟩, hS⟩
  · have := (List.getElem?_eq_some_iff.1 hq).1
    omega
  · obtain rfl : q = j := by omega
    rw [b] at hq
    cases hq
    exact ⟨rfl, hS⟩

theorem cls_deep {w0 w : World} {tb : Nat} {L : List Hd} {bs : List (Nat × Hd)} (h : St w0 tb L bs w) (small : L.length < 100000) :
    ∃ d D : Nat, d ≤ 2 * D ∧ D ≤ 40 ∧
      (∀ p : Cls (Kp (fun _ => False) w), Calls Try.prog 20 #[.pointer (some ⟨tb, 0, .none⟩)] p.W fun e w' => e = .returned (.int .i64 d) ∧ ∃ q : Cls (Kp (fun _ => False) w), w' = q.W) ∧
      (∀ p : Cls (Kp (fun _ => False) w), Calls Try.prog 22 #[.pointer (some ⟨tb, 0, .none⟩)] p.W fun e w' => e = .returned (.int .i64 L.length) ∧ ∃ q : Cls (Kp (fun _ => False) w), w' = q.W) ∧
      (∀ p : Cls (Kp (fun _ => False) w), Calls Try.prog 21 #[.int .i64 ((L.length : Int) + 1)] p.W fun e w' => e = .returned (.int .i64 D) ∧ ∃ q : Cls (Kp (fun _ => False) w), w' = q.W) := by
  obtain ⟨d, hd, _, hdeep⟩ := st_deep h (by omega)
  refine ⟨d, digs (L.length + 1), hd, digs_le 40 _ (by omega), fun p => Calls.cls ((hdeep p.W p.h).mono fun e w h => ⟨h.1, by obtain ⟨n, rfl⟩ := h.2; exact p.h.drewN n⟩), fun p => Calls.cls ((st_len (h.kp p.h)).mono fun e w h => ⟨h.1, h.2 ▸ p.h⟩), fun p => Calls.cls ?_⟩
  have := digits_any (L.length + 1) (by omega) p.W
  rw [Int.natCast_add] at this
  exact this.mono fun e w h => ⟨h.1, h.2 ▸ p.h⟩
theorem cls_one (w : World) (n : Int) : ∀ p : Cls (Kp (fun _ => False) w), Calls Try.prog 19 #[.int .i64 n] p.W fun e w' => e = .returned (.agg #[.int .i64 n, .int .u64 1]) ∧ ∃ q : Cls (Kp (fun _ => False) w), w' = q.W := fun p => Calls.cls ((one_any n p.W).mono fun e w h => ⟨h.1, p.h.trans h.2⟩)

theorem low_at_b {w0 w : World} {tb : Nat} {L : List Hd} {bs : List (Nat × Hd)} {q : Nat} {x : Hd} (hq : L[q]? = some x) (hL : L.length < 1099511627776) (h : St w0 tb L bs w) :
    Calls Try.prog 16 #[.pointer (some ⟨tb, 0, .none⟩), .int .i64 q] w fun e w' =>
      e = .returned (.tuple #[.agg #[.int .i64 x.s, .int .u64 x.g], .bool true]) ∧ St w0 tb L bs w' := by
  refine (st_at h q hL).mono ?_
  rintro e w' ⟨⟨a, rfl⟩ | ⟨j, y, a, b, rfl⟩, hS⟩
  · have := (List.getElem?_eq_some_iff.1 hq).1
    omega
  · obtain rfl : q = j := by omega
    rw [b] at hq
    cases hq
    exact ⟨rfl, hS⟩
theorem low_at_n {w0 w : World} {tb : Nat} {L : List Hd} {bs : List (Nat × Hd)} {q : Nat} (hq : L[q]? = none) (hL : L.length < 1099511627776) (h : St w0 tb L bs w) :
    Calls Try.prog 16 #[.pointer (some ⟨tb, 0, .none⟩), .int .i64 q] w fun e w' =>
      e = .returned (.tuple #[.agg #[.int .i64 0, .int .u64 0], .bool false]) ∧ St w0 tb L bs w' := by
  refine (st_at h q hL).mono ?_
  rintro e w' ⟨⟨a, rfl⟩ | ⟨j, y, a, b, rfl⟩, hS⟩
  · exact ⟨rfl, hS⟩
  · obtain rfl : q = j := by omega
    rw [b] at hq
    cases hq

/-- What At says of a place that holds o. -/
def Nx (o : Option Hd) (nv : Hd) (mr : Bool) : Prop := (mr = true ∧ o = some nv) ∨ (mr = false ∧ nv = ⟨0, 0⟩ ∧ o = .none)
theorem Nx.of : ∀ o : Option Hd, ∃ nv mr, Nx o nv mr
  | .none => ⟨⟨0, 0⟩, false, .inr ⟨rfl, rfl, rfl⟩⟩
  | some x => ⟨x, true, .inl ⟨rfl, rfl⟩⟩
theorem low_at_x {w0 w : World} {tb : Nat} {L : List Hd} {bs : List (Nat × Hd)} {q : Nat} {nv : Hd} {mr : Bool} (hq : Nx L[q]? nv mr) (hL : L.length < 1099511627776) (h : St w0 tb L bs w) :
    Calls Try.prog 16 #[.pointer (some ⟨tb, 0, .none⟩), .int .i64 q] w fun e w' =>
      e = .returned (.tuple #[.agg #[.int .i64 nv.s, .int .u64 nv.g], .bool mr]) ∧ St w0 tb L bs w' := by
  rcases hq with ⟨rfl, hq⟩ | ⟨rfl, rfl, hq⟩
  · exact low_at_b hq hL h
  · exact low_at_n hq hL h
theorem low_at_x1 {w0 w : World} {tb : Nat} {L : List Hd} {bs : List (Nat × Hd)} {q : Nat} {nv : Hd} {mr : Bool} (hq : Nx L[q + 1]? nv mr) (hL : L.length < 1099511627776) (h : St w0 tb L bs w) :
    Calls Try.prog 16 #[.pointer (some ⟨tb, 0, .none⟩), .int .i64 ((q : Int) + 1)] w fun e w' =>
      e = .returned (.tuple #[.agg #[.int .i64 nv.s, .int .u64 nv.g], .bool mr]) ∧ St w0 tb L bs w' := by
  have := low_at_x hq hL h
  rw [Int.natCast_add] at this
  exact this

theorem nodup_mid_unique : ∀ {P Q : List Hd} {q : Nat} {x : Hd}, (P ++ x :: Q).Nodup → (P ++ x :: Q)[q]? = some x → P.length = q
  | [], Q, 0, x, _, _ => rfl
  | [], Q, q + 1, x, nd, h => by
    simp at nd h
    exact absurd (List.mem_of_getElem? h) nd.1
  | a :: P, Q, 0, x, nd, h => by
    simp at nd h
    exact absurd h nd.1.2.1
  | a :: P, Q, q + 1, x, nd, h => by
    simp only [List.cons_append, List.nodup_cons] at nd
    have := nodup_mid_unique (q := q) nd.2 (by simpa using h)
    simp [this]

theorem low_remove {w0 w : World} {tb : Nat} {L : List Hd} {bs : List (Nat × Hd)} {q : Nat} {x : Hd} (hq : L[q]? = some x) (hL : L.length < 1099511627776) (h : St w0 tb L bs w) :
    Calls Try.prog 12 #[.pointer (some ⟨tb, 0, .none⟩), .agg #[.int .i64 x.s, .int .u64 x.g]] w fun e w' =>
      e = .returned (.tuple #[.int .i64 q, .bool true]) ∧ ∃ L', St w0 tb L' bs w' ∧ L'.length + 1 = L.length ∧ L'[q]? = L[q + 1]? ∧ ∀ y ∈ L', y ∈ L := by
  have hm := List.mem_of_getElem? hq
  refine (st_remove h x (h.ok x hm) hL).mono ?_
  rintro e w' (⟨a, _⟩ | ⟨pre, post, rfl, rfl, hS⟩)
  · exact absurd hm a
  · obtain rfl := nodup_mid_unique h.nodup hq
    refine ⟨rfl, _, hS, by simp; omega, ?_, ?_⟩
    · rw [List.getElem?_append_right (Nat.le_refl _), List.getElem?_append_right (by omega)]
      simp
    · intro y hy
      rcases List.mem_append.1 hy with hy | hy
      · simp [hy]
      · simp [hy]

set_option maxRecDepth 100000 in
set_option maxHeartbeats 4000000 in
theorem treeLow_walk (a0 : Int) (a1 : Option Addr) (len1 cap1 : Nat) (z1 : List Int) (a2 : Option Addr) (len2 cap2 : Nat) (z2 : List Int) (w : World) (w0 : (Lit.int .u16 a0).wf = true) (w1 : IsRow .u16 w a1 len1 cap1 z1) (w2 : IsRow .u16 w a2 len2 cap2 z2) :
    Calls Try.prog 4 #[.int .u16 a0, .slice a1 len1 cap1, .slice a2 len2 cap2] w fun e w' => e = .returned (.bool true) ∧ Below w.heap.size w w' := by
  by_cases g1 : 500 < len1
  · go_enter Try.func4, Try.ntmps4
    go_wp2_with fail
    refine (works_any w w (Below.refl _ _)).mono ?_
    rintro e w3 ⟨rfl, h3⟩
    go_wp2_with fail
    go_ret
    exact ⟨rfl, h3⟩
  by_cases g2 : 500 < len2
  · go_enter Try.func4, Try.ntmps4
    go_wp2_with fail
    refine (works_any w w (Below.refl _ _)).mono ?_
    rintro e w3 ⟨rfl, h3⟩
    go_wp2_with fail
    go_ret
    exact ⟨rfl, h3⟩
  obtain ⟨m, rfl, hm⟩ : ∃ m : Nat, a0 = m ∧ m < 65536 := by
    have h3 : 0 ≤ a0 ∧ a0 ≤ 65535 := by simpa [Lit.wf, IntKind.min, IntKind.max, IntKind.signed, IntKind.bits] using w0
    exact ⟨a0.toNat, by omega, by omega⟩
  clear w0
  go_enter Try.func4, Try.ntmps4
  go_wp2_with fail
  refine (st_new (Below.refl _ w)).mono ?_
  rintro e w3 ⟨tb, rfl, h3⟩
  go_wp2_with fail
  obtain ⟨n, hn, hn8⟩ : ∃ n : Nat, (m : Int) % 800 = n ∧ n < 800 := ⟨m % 800, by omega, by omega⟩
  simp only [hn]
  go_loopg [9] n (fun k v wr => ∃ i : Nat, v = .int .i64 i ∧ i + k = n ∧ ∃ L, St w tb L [] wr ∧ L.length = i ∧ Ones i L)
  case atStart => exact ⟨0, rfl, by omega, [], h3, rfl, by simp [Ones]⟩
  case round =>
    obtain ⟨i, rfl, hik, L, hS, hL, hlt⟩ := hrel
    clear h3
    cases gk with
    | zero =>
      obtain rfl : i = n := by omega
      go_wp2_with fail
      go_loopg [13] len2 (fun k v wr => ∃ i1 : Nat, v = .int .i64 i1 ∧ i1 + k = len2 ∧ ∃ L, St w tb L [] wr ∧ L.length ≤ 1000)
      case atStart => exact ⟨0, rfl, by omega, L, hS, by omega⟩
      case round =>
        obtain ⟨i1, rfl, hik, L, hS, hL⟩ := hrel
        cases gk with
        | zero =>
          have hi : ¬ (i1 : Int) < len2 := by omega
          go_wp2_with fail
          refine (st_all hS (by omega)).mono ?_
          rintro e w4 ⟨⟨a, c, rfl⟩, _, h4⟩
          go_wp2_with fail
          refine (st_len h4).mono ?_
          rintro e w5 ⟨rfl, rfl⟩
          go_wp2_with fail
          refine (works_any w _ h4.below).mono ?_
          rintro e w6 ⟨rfl, h6⟩
          go_wp2_with fail
          go_ret
          exact ⟨rfl, h6⟩
        | succ gk =>
          have hi : (i1 : Int) < len2 := by omega
          go_wp2_with fail
          refine (st_len hS).mono ?_
          rintro e wr' ⟨rfl, rfl⟩
          by_cases hl0 : L.length = 0
          · have hl1 : ¬ (0 : Int) < (L.length : Int) := by omega
            go_wp2_with fail
            refine (st_all hS (by omega)).mono ?_
            rintro e w4 ⟨⟨a, c, rfl⟩, _, h4⟩
            go_wp2_with fail
            refine (st_len h4).mono ?_
            rintro e w5 ⟨rfl, rfl⟩
            go_wp2_with fail
            refine (works_any w _ h4.below).mono ?_
            rintro e w6 ⟨rfl, h6⟩
            go_wp2_with fail
            go_ret
            exact ⟨rfl, h6⟩
          · have hl1 : (0 : Int) < (L.length : Int) := by omega
            obtain ⟨x, v, rfl, hv, hc⟩ := w2.at (show i1 < len2 by omega)
            obtain ⟨ll, hll⟩ : ∃ ll : Nat, ll = L.length := ⟨_, rfl⟩
            have hlen := Lib.hid (st_len hS)
            rw [← hll] at hl1 hlen ⊢
            have hll1 : (ll : Int) ≤ 1000 := by omega
            go_wp2_with fail
            have hcc : ∀ p : Cls (Kp (fun _ => False) wr'), p.W.cell? (x.add i1) = some (.int .u16 v) := fun p => hc p.W (hS.kp p.h).below
            have jl : ∀ p : Cls (Kp (fun _ => False) wr'), Calls Try.prog 22 #[.pointer (some ⟨tb, 0, .none⟩)] p.W fun e w' => e = .returned (.int .i64 ll) ∧ ∃ q : Cls (Kp (fun _ => False) wr'), w' = q.W := fun p => Calls.cls ((st_len (hS.kp p.h)).mono fun e w h => ⟨hll ▸ h.1, h.2 ▸ p.h⟩)
            haveI : Nonempty (Cls (Kp (fun _ => False) wr')) := ⟨⟨_, Kp.refl _ wr'⟩⟩
            refine wp_region_quiet_cls (Kp (fun _ => False) wr') (by kernel_rfl) (by kernel_rfl) (Kp.refl _ wr').drew ?_
            repeat (go_big_quiet_step (first
              | (go_at_call 22; with_reducible exact jl _)))
            refine wpQuiet_nil ?_
            intro w5 hk5
            have h5 := hS.kp hk5
            clear jl hcc hc hlen
            go_wp2_with fail
            obtain ⟨q, hq, hqi⟩ : ∃ q : Nat, (v : Int) % (L.length : Int) = q ∧ q < L.length := ⟨v % L.length, (Int.natCast_emod v L.length).symm, Nat.mod_lt _ (by omega)⟩
            simp only [hq]
            clear hq
            obtain ⟨y, hy⟩ : ∃ y, L[q]? = some y := ⟨_, List.getElem?_eq_getElem hqi⟩
            obtain ⟨nv, mr, hnx⟩ := Nx.of L[q + 1]?
            have hq1 : (q : Int) ≤ 1000 := by omega
            have hyh := Lib.hid hy
            have hnh := Lib.hid hnx
            have hLl := Lib.hid hL
            clear hy hnx hl1 hl0 hS hk5
            refine (low_at_b hyh.out (by have := hLl.out; omega) h5).mono ?_
            rintro e w6 ⟨rfl, h6⟩
            go_wp2_with fail
            have h7 := h6.box y
            obtain ⟨B1, hB1⟩ : ∃ B1, w6.heap.size = B1 := ⟨_, rfl⟩
            simp only [hB1] at h7 ⊢
            generalize w6.alloc (Obj.cells #[Value.int IntKind.i64 y.s, Value.int IntKind.u64 y.g] 34) = W1 at h7 ⊢
            clear h5 h6 hB1
            refine (low_at_x1 hnh.out (by have := hLl.out; omega) h7).mono ?_
            rintro e w8 ⟨rfl, h8⟩
            have e0 := (h8.hbox (b := B1) (x := y) (by simp)).c0
            have e1 := (h8.hbox (b := B1) (x := y) (by simp)).c1
            have el := (h8.hbox (b := B1) (x := y) (by simp)).lt
            go_wp2_with fail
            have h9 := h8.box nv
            obtain ⟨B2, hB2⟩ : ∃ B2, w8.heap.size = B2 := ⟨_, rfl⟩
            simp only [hB2] at h9 ⊢
            generalize w8.alloc (Obj.cells #[Value.int IntKind.i64 nv.s, Value.int IntKind.u64 nv.g] 34) = W2 at h9 ⊢
            clear h7 h8 hB2 e0 e1 el
            refine (low_remove hyh.out (by have := hLl.out; omega) h9).mono ?_
            rintro e w10 ⟨rfl, L', h10, hL', hnext, hsub⟩
            go_wp2_with fail
            have hLl' : L'.length ≤ 1000 := by have := hLl.out; omega
            obtain ⟨d, D, hdD, hD, j20, j22, j21⟩ := cls_deep h10 (by omega)
            have hb : (L'.length : Int) ≤ 1000 := by omega
            have hd2 : (D : Int) ≤ 40 := by omega
            have hd3 : decide ((2 : Int) * D < d) = false := decide_eq_false (by omega)
            haveI : Nonempty (Cls (Kp (fun _ => False) w10)) := ⟨⟨_, Kp.refl _ w10⟩⟩
            have hnx' := Lib.hid (hnext ▸ hnh.out : Nx L'[q]? nv mr)
            clear hL' hnext hsub
            refine (j20 ⟨w10, Kp.refl _ _⟩).mono ?_
            rintro e _ ⟨rfl, p1, rfl⟩
            go_wp2_with fail
            refine (j22 p1).mono ?_
            rintro e _ ⟨rfl, p2, rfl⟩
            go_wp2_with fail
            refine (j21 p2).mono ?_
            rintro e _ ⟨rfl, p3, rfl⟩
            clear j20 j21 j22
            have h11 := h10.kp p3.h
            go_wp2_with fail
            refine (low_at_x hnx'.out (by omega) h11).mono ?_
            rintro e w12 ⟨rfl, h12⟩
            have e2 := (h12.hbox (b := B2) (x := nv) (by simp)).c0
            have e3 := (h12.hbox (b := B2) (x := nv) (by simp)).c1
            have el := (h12.hbox (b := B2) (x := nv) (by simp)).lt
            clear h11
            cases mr
            all_goals
              go_wp2_with fail
              go_roundg gk
              case measure => omega
              case rel => exact ⟨i1 + 1, by push_cast; rfl, by omega, L', ((h12.alloc _).less (by simp)), hLl'⟩
    | succ gk =>
      have hin : (i : Int) < n := by omega
      by_cases hi : i < len1
      case' pos =>
        have hi' : (i : Int) < len1 := by omega
        obtain ⟨x, v, rfl, hv, hc⟩ := w1.at hi
        have hcw := hc wr hS.below
        go_wp2_with fail
        obtain ⟨q, hq, hqi⟩ : ∃ q : Nat, (v : Int) % ((i : Int) + 1) = q ∧ q ≤ i := ⟨v % (i + 1), by rw [Int.natCast_emod]; push_cast; rfl, by have := Nat.mod_lt v (show i + 1 > 0 by omega); omega⟩
        simp only [hq]
        clear hcw hc hq
        have hins := Lib.hid (fun w' => low_insert (w := w') (tb := tb) (w0 := w) hqi hL hlt (by omega))
        have hat := Lib.hid (fun w' L' => low_at (w := w') (tb := tb) (w0 := w) (L := L') (q := q) (x := ⟨i, 1⟩))
      case' neg =>
        have hi' : ¬ (i : Int) < len1 := by omega
        go_wp2_with fail
        have hins := Lib.hid (fun w' => low_insert (w := w') (tb := tb) (w0 := w) (Nat.le_refl i) hL hlt (by omega))
        have hat := Lib.hid (fun w' L' => low_at (w := w') (tb := tb) (w0 := w) (L := L') (q := i) (x := ⟨i, 1⟩))
      all_goals
        clear hi hi'
        refine (st_one hS i).mono ?_
        rintro e w4 ⟨rfl, h4⟩
        go_wp2_with fail
        refine (hins.out w4 h4).mono ?_
        rintro e w5 ⟨rfl, L', h5, hL', hq', hlt'⟩
        go_wp2_with fail
        refine (hat.out w5 L' hq' (by omega) h5).mono ?_
        rintro e w6 ⟨rfl, h6⟩
        clear hins hat hS h4 h5 hq' hlt
        go_wp2_with fail
        have h7 := h6.box ⟨i, 1⟩
        have hbx : HBox (w6.alloc (Obj.cells #[Value.int IntKind.i64 ↑i, Value.int IntKind.u64 1] 34)) w6.heap.size ⟨i, 1⟩ := h7.hbox (by simp)
        generalize w6.alloc (Obj.cells #[Value.int IntKind.i64 ↑i, Value.int IntKind.u64 1] 34) = W at h7 hbx ⊢
        clear h6
        obtain ⟨d, D, hdD, hD, j20, j22, j21⟩ := cls_deep h7 (by omega)
        have j19 := cls_one W i
        have b0 : ∀ p : Cls (Kp (fun _ => False) W), p.W.cell? ⟨w6.heap.size, 0, .none⟩ = some (.int .i64 i) := fun p => (hbx.kp p.h (fun h => h)).c0
        have b1 : ∀ p : Cls (Kp (fun _ => False) W), p.W.cell? ⟨w6.heap.size, 1, .none⟩ = some (.int .u64 1) := fun p => (hbx.kp p.h (fun h => h)).c1
        have hb : (L'.length : Int) < 1000 := by omega
        have hd2 : (D : Int) ≤ 40 := by omega
        have hd3 : decide ((2 : Int) * D < d) = false := decide_eq_false (by omega)
        haveI : Nonempty (Cls (Kp (fun _ => False) W)) := ⟨⟨_, Kp.refl _ W⟩⟩
        have hL2 := Lib.hid hL'
        clear hL' hbx
        refine wp_region_quiet_cls (Kp (fun _ => False) W) (by kernel_rfl) (by kernel_rfl) (Kp.refl _ W).drew ?_
        repeat (go_big_quiet_step (first
          | (go_at_call 19; with_reducible exact j19 _)
          | (go_at_call 20; with_reducible exact j20 _)
          | (go_at_call 21; with_reducible exact j21 _)
          | (go_at_call 22; with_reducible exact j22 _)))
        refine wpQuiet_nil ?_
        intro w7 hk7
        clear j19 j20 j21 j22 b0 b1
        go_wp2_with fail
        go_roundg gk
        case measure => omega
        case rel => exact ⟨i + 1, by push_cast; rfl, by omega, L', (h7.kp hk7).less (by simp), hL2.out, hlt'⟩
end Go.Proofs.Ytimhbnlgambcaaa
