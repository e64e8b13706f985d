/- The walk of Insert of a graph. -/
import Derived.Test.YtimhbnlgambcaaaGk
namespace Go.Proofs.Ytimhbnlgambcaaa
open Go.RowKit Go.BigFrame

def mayErrT (g : GS) (p : Plc) (x : Hd) (n : Int) : Int := if (g.In (x, n)).isSome then 7 else if isListG g p ∨ (g.By (p, x)).isSome then 3 else 0
def insAt (L : List Hd) (i : Int) (x : Hd) : List Hd := L.take i.toNat ++ x :: L.drop i.toNat
theorem mem_insAt {L : List Hd} {i : Int} {x y : Hd} : y ∈ insAt L i x ↔ y = x ∨ y ∈ L := by
  unfold insAt
  have h : y ∈ L ↔ y ∈ L.take i.toNat ∨ y ∈ L.drop i.toNat := by rw [← List.mem_append, List.take_append_drop]
  rw [h]
  simp only [List.mem_append, List.mem_cons]
  constructor
  · rintro (h | h | h)
    · exact .inr (.inl h)
    · exact .inl h
    · exact .inr (.inr h)
  · rintro (h | h | h)
    · exact .inr (.inl h)
    · exact .inl h
    · exact .inr (.inr h)
theorem insAt_nodup {L : List Hd} {i : Int} {x : Hd} (nd : L.Nodup) (hx : x ∉ L) : (insAt L i x).Nodup := by
  unfold insAt
  have h : (L.take i.toNat ++ L.drop i.toNat).Nodup := by rw [List.take_append_drop]; exact nd
  rw [List.nodup_append] at h ⊢
  refine ⟨h.1, List.nodup_cons.2 ⟨fun hm => hx (List.mem_of_mem_drop hm), h.2.1⟩, fun a ha b hb => ?_⟩
  rcases List.mem_cons.1 hb with rfl | hb
  · rintro rfl; exact hx (List.mem_of_mem_take ha)
  · exact h.2.2 a ha b hb

section
variable {w w' : World} {gb rm im bm : Nat} {B : Plc → Option (Bool × Nat)} {Sp : Plc → Nat → Prop} {g : GS} {S : Nat → Prop}
theorem ins_zero {p : Plc} {x : Hd} {n : Int} (h : mayErrT g p x n = 0) : g.In (x, n) = .none ∧ isListG g p = false ∧ g.By (p, x) = .none := by
  unfold mayErrT at h
  split at h
  · cases h
  · split at h
    · cases h
    · rename_i h1 h2
      simp only [not_or, Bool.not_eq_true, Option.isSome_eq_false_iff, Option.isNone_iff_eq_none] at h1 h2
      exact ⟨h1, h2.1, h2.2⟩
theorem GW.may_ins (h : GW w gb rm im bm B Sp g) (p : Plc) (x : Hd) (n : Int) : mayErr B g.In g.By p x n (rowp B p true).isSome = mayErrT g p x n := by
  unfold mayErr mayErrT
  have e : ((B p).isSome = true ∧ (rowp B p true).isSome = false) ↔ isListG g p = true := by
    cases hB : B p with
    | none => simp [isListG, (h.n p hB).1]
    | some r =>
      obtain ⟨t, b⟩ := r
      obtain ⟨L, h3, h4⟩ := h.r p t b hB
      cases t <;> simp [rowp, hB, isListG, h3]
  simp only [e]

set_option maxRecDepth 100000 in
set_option maxHeartbeats 4000000 in
theorem gins_err (h : GW w gb rm im bm B Sp g) (p : Plc) (hp : p.ok) (x : Hd) (hx : x.ok) (n : Int) (hn : nwf n) (i : Int) (he : mayErrT g p x n ≠ 0) :
    Calls Try.prog 28 #[.pointer (some ⟨gb, 0, .none⟩), .agg #[.int .i64 p.m, .int .i64 p.s, .int .i64 p.a], .int .i64 i, .agg #[.int .i64 x.s, .int .u64 x.g], .int .i64 n] w fun e w' =>
      e = .returned (.int .i64 (mayErrT g p x n)) ∧ Kp (fun _ => False) w w' := by
  have hK0 : Kp (fun _ => False) w ((w.alloc (.cells #[.int .i64 p.m, .int .i64 p.s, .int .i64 p.a] 55)).alloc (.cells #[.int .i64 x.s, .int .u64 x.g] 34)) := ((Kp.refl _ _).alloc _).alloc _
  obtain ⟨hp1, hx1⟩ := two_new w (.cells #[.int .i64 p.m, .int .i64 p.s, .int .i64 p.a] 55) (.cells #[.int .i64 x.s, .int .u64 x.g] 34)
  have hP : PBox ((w.alloc (.cells #[.int .i64 p.m, .int .i64 p.s, .int .i64 p.a] 55)).alloc (.cells #[.int .i64 x.s, .int .u64 x.g] 34)) w.heap.size p := hp1
  have hX : HBox ((w.alloc (.cells #[.int .i64 p.m, .int .i64 p.s, .int .i64 p.a] 55)).alloc (.cells #[.int .i64 x.s, .int .u64 x.g] 34)) (w.heap.size + 1) x := hx1
  have hG := h.kp0 hK0
  have hmy := h.may_ins p x n
  obtain ⟨er, her⟩ : ∃ er, er = mayErrT g p x n := ⟨_, rfl⟩
  rw [← her] at he hmy ⊢
  have heb : (er == 0) = false := by simpa using he
  obtain ⟨rp, hrp⟩ : ∃ rp, rp = rowp B p true := ⟨_, rfl⟩
  rw [← hrp] at hmy
  have hmyh := Lib.hid hmy
  have hrph := Lib.hid hrp
  clear hp1 hx1 her hmy hrp he
  go_enter Try.func28, Try.ntmps28
  go_wp2_with fail
  generalize (w.alloc (.cells #[.int .i64 p.m, .int .i64 p.s, .int .i64 p.a] 55)).alloc (.cells #[.int .i64 x.s, .int .u64 x.g] 34) = W at hK0 hP hX hG ⊢
  have p0 : ∀ q : Cls (Kp (fun _ => False) W), q.W.cell? ⟨w.heap.size, 0, .none⟩ = some (.int .i64 p.m) := fun q => (hP.kp0 q.h).c0
  have p1 : ∀ q : Cls (Kp (fun _ => False) W), q.W.cell? ⟨w.heap.size, 1, .none⟩ = some (.int .i64 p.s) := fun q => (hP.kp0 q.h).c1
  have p2 : ∀ q : Cls (Kp (fun _ => False) W), q.W.cell? ⟨w.heap.size, 2, .none⟩ = some (.int .i64 p.a) := fun q => (hP.kp0 q.h).c2
  have x0 : ∀ q : Cls (Kp (fun _ => False) W), q.W.cell? ⟨w.heap.size + 1, 0, .none⟩ = some (.int .i64 x.s) := fun q => (hX.kp0 q.h).c0
  have x1 : ∀ q : Cls (Kp (fun _ => False) W), q.W.cell? ⟨w.heap.size + 1, 1, .none⟩ = some (.int .u64 x.g) := fun q => (hX.kp0 q.h).c1
  have j53 : ∀ q : Cls (Kp (fun _ => False) W), Calls Try.prog 53 #[.pointer (some ⟨gb, 0, .none⟩)] q.W fun e w' => e = .returned (.bool true) ∧ ∃ r : Cls (Kp (fun _ => False) W), w' = r.W :=
    fun q => Calls.cls ((graph_made (hG.kp0 q.h).m).mono fun e w h => ⟨h.1, h.2 ▸ q.h⟩)
  have j58 : ∀ q : Cls (Kp (fun _ => False) W), Calls Try.prog 58 #[.pointer (some ⟨gb, 0, .none⟩), .agg #[.int .i64 p.m, .int .i64 p.s, .int .i64 p.a]] q.W fun e w' => e = .returned (.pointer (adr rp)) ∧ ∃ r : Cls (Kp (fun _ => False) W), w' = r.W :=
    fun q => Calls.cls ((graph_treed (hG.kp0 q.h).m p hp).mono fun e w h => ⟨hrph.out ▸ h.1, q.h.trans h.2⟩)
  have j52 : ∀ q : Cls (Kp (fun _ => False) W), Calls Try.prog 52 #[.pointer (some ⟨gb, 0, .none⟩), .agg #[.int .i64 p.m, .int .i64 p.s, .int .i64 p.a], .agg #[.int .i64 x.s, .int .u64 x.g], .int .i64 n, .bool rp.isSome] q.W fun e w' => e = .returned (.int .i64 er) ∧ ∃ r : Cls (Kp (fun _ => False) W), w' = r.W :=
    fun q => Calls.cls ((graph_may (hG.kp0 q.h).m p hp x hx n hn rp.isSome).mono fun e w h => ⟨hmyh.out ▸ h.1, q.h.trans h.2⟩)
  haveI : Nonempty (Cls (Kp (fun _ => False) W)) := ⟨⟨_, Kp.refl _ W⟩⟩
  cases rp with
  | none =>
    simp only [adr_none, Option.isSome_none] at j58 j52
    refine wp_region_quiet_cls (Kp (fun _ => False) W) (by kernel_rfl) (by kernel_rfl) (Kp.refl _ W).drew ?_
    repeat (go_big_quiet_step (first
      | (go_at_call 53; with_reducible exact j53 _)
      | (go_at_call 58; with_reducible exact j58 _)
      | (go_at_call 52; with_reducible exact j52 _)))
    refine wpQuiet_nil ?_
    intro w3 hk3
    clear p0 p1 p2 x0 x1 j52 j53 j58
    go_wp2_with fail
    go_ret
    exact ⟨rfl, hK0.trans hk3⟩
  | some b =>
    simp only [adr_some, Option.isSome_some] at j58 j52
    refine wp_region_quiet_cls (Kp (fun _ => False) W) (by kernel_rfl) (by kernel_rfl) (Kp.refl _ W).drew ?_
    repeat (go_big_quiet_step (first
      | (go_at_call 53; with_reducible exact j53 _)
      | (go_at_call 58; with_reducible exact j58 _)
      | (go_at_call 52; with_reducible exact j52 _)))
    refine wpQuiet_nil ?_
    intro w3 hk3
    clear p0 p1 p2 x0 x1 j52 j53 j58
    go_wp2_with fail
    go_ret
    exact ⟨rfl, hK0.trans hk3⟩
theorem tree_insert_bad {tb : Nat} {S : Nat → Prop} {L : List Hd} (hT : TreeAt w tb S L) (i : Int) (h : Hd) (hbad : i < 0 ∨ (L.length : Int) < i) :
    Calls Try.prog 14 #[.pointer (some ⟨tb, 0, .none⟩), .int .i64 i, .agg #[.int .i64 h.s, .int .u64 h.g]] w fun e w' => e = .returned (.int .i64 2) ∧ Kp (fun _ => False) w w' := by
  obtain ⟨mb, n, H, F, T, h1, h2, h3, h4, h5, h6⟩ := hT
  have hc : T.cnt = L.length := by rw [cnt_ord, h3]
  have hs := h2.holds.size
  rw [hc] at hs
  by_cases hneg : i < 0
  · exact (insert_neg w tb mb n _ H F h1 i h hneg).mono fun e w' ⟨h, _, hk⟩ => ⟨h, hk⟩
  · exact (insert_big w tb mb n _ H F h1 i _ h hs (by omega) (by omega)).mono fun e w' ⟨h, _, hk⟩ => ⟨h, hk⟩

set_option maxRecDepth 100000 in
set_option maxHeartbeats 4000000 in
theorem gins_ok (h : GW w gb rm im bm B Sp g) (p : Plc) (hp : p.ok) (x : Hd) (hx : x.ok) (n : Int) (hn : nwf n) (i : Int) (hS : ∀ k, S k ↔ (k = gb ∨ MS rm im bm k ∨ ∃ p, Sp p k)) (he : mayErrT g p x n = 0) (hi0 : 0 ≤ i) (hi1 : i ≤ (rowL g p).length) (small : (rowL g p).length < 1000000) :
    Calls Try.prog 28 #[.pointer (some ⟨gb, 0, .none⟩), .agg #[.int .i64 p.m, .int .i64 p.s, .int .i64 p.a], .int .i64 i, .agg #[.int .i64 x.s, .int .u64 x.g], .int .i64 n] w fun e w' =>
      e = .returned (.int .i64 0) ∧ PutPost w gb S (gput g p true (insAt (rowL g p) i x) x n) w' := by
  have hK0 : Kp (fun _ => False) w ((w.alloc (.cells #[.int .i64 p.m, .int .i64 p.s, .int .i64 p.a] 55)).alloc (.cells #[.int .i64 x.s, .int .u64 x.g] 34)) := ((Kp.refl _ _).alloc _).alloc _
  obtain ⟨hp1, hx1⟩ := two_new w (.cells #[.int .i64 p.m, .int .i64 p.s, .int .i64 p.a] 55) (.cells #[.int .i64 x.s, .int .u64 x.g] 34)
  have hP : PBox ((w.alloc (.cells #[.int .i64 p.m, .int .i64 p.s, .int .i64 p.a] 55)).alloc (.cells #[.int .i64 x.s, .int .u64 x.g] 34)) w.heap.size p := hp1
  have hX : HBox ((w.alloc (.cells #[.int .i64 p.m, .int .i64 p.s, .int .i64 p.a] 55)).alloc (.cells #[.int .i64 x.s, .int .u64 x.g] 34)) (w.heap.size + 1) x := hx1
  have hG := h.kp0 hK0
  have hmy := h.may_ins p x n
  rw [he] at hmy
  obtain ⟨hIn, hTr, hBy⟩ := ins_zero he
  have hcs := Lib.hid (h.rowp_tree p)
  have hok := h.ok
  obtain ⟨rp, hrp⟩ : ∃ rp, rp = rowp B p true := ⟨_, rfl⟩
  rw [← hrp] at hmy
  have hmyh := Lib.hid hmy
  have hrph := Lib.hid hrp
  clear hp1 hx1 hmy hrp he
  go_enter Try.func28, Try.ntmps28
  go_wp2_with fail
  generalize (w.alloc (.cells #[.int .i64 p.m, .int .i64 p.s, .int .i64 p.a] 55)).alloc (.cells #[.int .i64 x.s, .int .u64 x.g] 34) = W at hK0 hP hX hG ⊢
  have p0 : ∀ q : Cls (Kp (fun _ => False) W), q.W.cell? ⟨w.heap.size, 0, .none⟩ = some (.int .i64 p.m) := fun q => (hP.kp0 q.h).c0
  have p1 : ∀ q : Cls (Kp (fun _ => False) W), q.W.cell? ⟨w.heap.size, 1, .none⟩ = some (.int .i64 p.s) := fun q => (hP.kp0 q.h).c1
  have p2 : ∀ q : Cls (Kp (fun _ => False) W), q.W.cell? ⟨w.heap.size, 2, .none⟩ = some (.int .i64 p.a) := fun q => (hP.kp0 q.h).c2
  have x0 : ∀ q : Cls (Kp (fun _ => False) W), q.W.cell? ⟨w.heap.size + 1, 0, .none⟩ = some (.int .i64 x.s) := fun q => (hX.kp0 q.h).c0
  have x1 : ∀ q : Cls (Kp (fun _ => False) W), q.W.cell? ⟨w.heap.size + 1, 1, .none⟩ = some (.int .u64 x.g) := fun q => (hX.kp0 q.h).c1
  have j53 : ∀ q : Cls (Kp (fun _ => False) W), Calls Try.prog 53 #[.pointer (some ⟨gb, 0, .none⟩)] q.W fun e w' => e = .returned (.bool true) ∧ ∃ r : Cls (Kp (fun _ => False) W), w' = r.W :=
    fun q => Calls.cls ((graph_made (hG.kp0 q.h).m).mono fun e w h => ⟨h.1, h.2 ▸ q.h⟩)
  have j58 : ∀ q : Cls (Kp (fun _ => False) W), Calls Try.prog 58 #[.pointer (some ⟨gb, 0, .none⟩), .agg #[.int .i64 p.m, .int .i64 p.s, .int .i64 p.a]] q.W fun e w' => e = .returned (.pointer (adr rp)) ∧ ∃ r : Cls (Kp (fun _ => False) W), w' = r.W :=
    fun q => Calls.cls ((graph_treed (hG.kp0 q.h).m p hp).mono fun e w h => ⟨hrph.out ▸ h.1, q.h.trans h.2⟩)
  have j52 : ∀ q : Cls (Kp (fun _ => False) W), Calls Try.prog 52 #[.pointer (some ⟨gb, 0, .none⟩), .agg #[.int .i64 p.m, .int .i64 p.s, .int .i64 p.a], .agg #[.int .i64 x.s, .int .u64 x.g], .int .i64 n, .bool rp.isSome] q.W fun e w' => e = .returned (.int .i64 0) ∧ ∃ r : Cls (Kp (fun _ => False) W), w' = r.W :=
    fun q => Calls.cls ((graph_may (hG.kp0 q.h).m p hp x hx n hn rp.isSome).mono fun e w h => ⟨hmyh.out ▸ h.1, q.h.trans h.2⟩)
  haveI : Nonempty (Cls (Kp (fun _ => False) W)) := ⟨⟨_, Kp.refl _ W⟩⟩
  have hkp : ∀ w', Kp (fun _ => False) W w' → PBox w' w.heap.size p ∧ HBox w' (w.heap.size + 1) x := fun w' hk => ⟨hP.kp0 hk, hX.kp0 hk⟩
  have hInh := Lib.hid hIn
  have hByh := Lib.hid hBy
  have hTrh := Lib.hid hTr
  have hkph := Lib.hid hkp
  clear hIn hBy hTr hkp hP hX
  have hrcase : (rp = .none ∧ B p = .none ∧ g.R p = .none) ∨ ∃ b L, rp = some b ∧ B p = some (true, b) ∧ g.R p = some (true, L) ∧ TreeAt w b (Sp p) L := by
    rcases hcs.out with ⟨h1, h2, h3⟩ | ⟨b, L, h1, h2, h3, h4, _⟩
    · rcases h3 with h3 | ⟨h3, h4⟩
      · rw [hTrh.out] at h3; cases h3
      · exact .inl ⟨hrph.out.trans h1, h3, h4⟩
    · exact .inr ⟨b, L, hrph.out.trans h1, h2, h3, h4⟩
  clear hcs
  rcases hrcase with ⟨rfl, hB, hR⟩ | ⟨b, L, rfl, hB, hR, hLa⟩
  · simp only [adr_none, Option.isSome_none] at j58 j52
    refine wp_region_quiet_cls (Kp (fun _ => False) W) (by kernel_rfl) (by kernel_rfl) (Kp.refl _ W).drew ?_
    repeat (go_big_quiet_step (first
      | (go_at_call 53; with_reducible exact j53 _)
      | (go_at_call 58; with_reducible exact j58 _)
      | (go_at_call 52; with_reducible exact j52 _)))
    refine wpQuiet_nil ?_
    intro w3 hk3
    have hG3 := hG.kp0 hk3
    obtain ⟨hP3, hX3⟩ := hkph.out w3 hk3
    have hK3 := hK0.trans hk3
    clear p0 p1 p2 x0 x1 j52 j53 j58 hG hk3
    have p0 := hP3.c0
    have p1 := hP3.c1
    have p2 := hP3.c2
    go_wp2_with fail
    refine (graph_treed hG3.m p hp).mono ?_
    rintro e w4 ⟨rfl, hk4⟩
    rw [← hrph.out, adr_none]
    have hG4 := hG3.kp0 hk4
    have hP4 := hP3.kp0 hk4
    have hX4 := hX3.kp0 hk4
    have hK4 := hK3.trans hk4
    clear p0 p1 p2 hG3 hP3 hX3 hk4 hK3
    go_wp2_with fail
    refine (tree_new w4).mono ?_
    rintro e w5 ⟨lb, S0, rfl, hl5, hS0, hk5⟩
    have hG5 := hG4.kp0 hk5
    have hP5 := hP4.kp0 hk5
    have hX5 := hX4.kp0 hk5
    have hK5 := hK4.trans hk5
    have hsz : w.heap.size ≤ w4.heap.size := hK4.size
    have hb4 : w.heap.size + 1 < w4.heap.size := hX4.lt
    clear hG4 hP4 hX4 hK4 hk5
    have x0 := hX5.c0
    have x1 := hX5.c1
    go_wp2_with fail
    have hrow0 : rowL g p = [] := rowL_none hR
    rw [hrow0] at hi1
    have hno : ¬ (i < 0 ∨ (([] : List Hd).length : Int) < i) := by omega
    refine (tree_insert hl5 i x hx (by decide)).mono ?_
    rintro e w6 ⟨rfl, S1, hl6, hk6, hS1⟩
    rw [insErr, if_neg hno, if_neg (List.not_mem_nil)]
    rw [insList, if_neg hno, if_neg (List.not_mem_nil)] at hl6
    have hn0 : ∀ k, k < w4.heap.size → ¬ S0 k := fun k hk hs => by have := hS0 k hs; omega
    have hlt4 : ∀ k, k = gb ∨ MS rm im bm k ∨ (∃ p, Sp p k) → k < w4.heap.size := fun k hk => by
      have : k < w.heap.size := by
        rcases hk with rfl | hk | ⟨q, hk⟩
        · exact h.m.lt
        · exact h.m.lts (.inr hk)
        · exact h.splt hk
      omega
    have hG6 := hG5.kp hk6 (fun k hk => hn0 k (hlt4 k hk))
    have hP6 := hP5.kp hk6 (hn0 _ (by omega))
    have hX6 := hX5.kp hk6 (hn0 _ hb4)
    have hK6 : Kp (fun _ => False) w w6 := hK5.trans2 hk6 (fun j hj hs => hn0 j (by omega) hs)
    have hdis : ∀ k, S1 k → ¬ MS rm im bm k := fun k hk hm => by
      have h1 := hlt4 k (.inr (.inl hm))
      rcases hS1 k hk with h2 | h2
      · exact hn0 k h1 h2
      · have := hK5.size; have := hk6.size; have := hG5.m.lts (.inr hm); omega
    have hnew : ∀ k, S1 k → w.heap.size ≤ k := fun k hk => by
      rcases hS1 k hk with h2 | h2
      · have := hS0 k h2; omega
      · have := hK5.size; omega
    clear hG5 hP5 hX5 hK5 hk6 hl5 x0 x1 hlt4 hS1 hS0
    have p0 := hP6.c0
    have p1 := hP6.c1
    have p2 := hP6.c2
    have x0 := hX6.c0
    have x1 := hX6.c1
    have hnwf := Lib.hid hn
    go_wp2_with fail
    refine (graph_comes hG6.m p hp x hx n hnwf.out (true, lb)).mono ?_
    rintro e w7 ⟨rfl, hm7, hk7⟩
    have hl7 := TreeAt.kp hl6 hk7 hdis
    go_wp2_with fail
    go_ret
    refine ⟨rfl, ?_⟩
    have hK7 : Kp (MS rm im bm) w w7 := (hK6.mono (fun _ _ h => h.elim)).trans hk7
    have hgw := gw_put h hm7 (show RowAt w7 true lb S1 (insAt [] i x) from hl7) (fun k hk => .inr (hnew k hk)) (hK7.mono (fun k _ hk => .inr hk)) (gok_put hok hp hx hnwf.out (fun y => by rw [hrow0]; exact mem_insAt) (insAt_nodup (by simp) (by simp)) hInh.out hByh.out)
    rw [hrow0]
    refine ⟨_, ⟨rm, im, bm, _, _, hgw, fun k => Iff.rfl⟩, hK7.mono (fun k _ hk => (hS k).2 (.inr (.inl hk))), ?_⟩
    rintro k (rfl | hk | ⟨q, ⟨_, hk⟩ | ⟨_, hk⟩⟩)
    · exact .inl ((hS k).2 (.inl rfl))
    · exact .inl ((hS k).2 (.inr (.inl hk)))
    · exact .inr (hnew k hk)
    · exact .inl ((hS k).2 (.inr (.inr ⟨q, hk⟩)))
  · simp only [adr_some, Option.isSome_some] at j58 j52
    refine wp_region_quiet_cls (Kp (fun _ => False) W) (by kernel_rfl) (by kernel_rfl) (Kp.refl _ W).drew ?_
    repeat (go_big_quiet_step (first
      | (go_at_call 53; with_reducible exact j53 _)
      | (go_at_call 58; with_reducible exact j58 _)
      | (go_at_call 52; with_reducible exact j52 _)))
    refine wpQuiet_nil ?_
    intro w3 hk3
    have hG3 := hG.kp0 hk3
    obtain ⟨hP3, hX3⟩ := hkph.out w3 hk3
    have hK3 := hK0.trans hk3
    clear p0 p1 p2 x0 x1 j52 j53 j58 hG hk3
    have p0 := hP3.c0
    have p1 := hP3.c1
    have p2 := hP3.c2
    go_wp2_with fail
    refine (graph_treed hG3.m p hp).mono ?_
    rintro e w4 ⟨rfl, hk4⟩
    rw [← hrph.out, adr_some]
    have hG4 := hG3.kp0 hk4
    have hP4 := hP3.kp0 hk4
    have hX4 := hX3.kp0 hk4
    have hK4 := hK3.trans hk4
    have hsz : w.heap.size ≤ w4.heap.size := hK4.size
    have hb4 : w.heap.size + 1 < w4.heap.size := hX4.lt
    clear p0 p1 p2 hG3 hP3 hX3 hk4 hK3
    have hl4 := TreeAt.kp hLa hK4 (fun _ _ h => h)
    have hxL : x ∉ L := fun hm => by
      obtain ⟨m, hm⟩ := hok.by2 p true L x hR hm
      rw [hByh.out] at hm
      cases hm
    have hndL := hok.nd p true L hR
    have x0 := hX4.c0
    have x1 := hX4.c1
    go_wp2_with fail
    have hrow0 : rowL g p = L := rowL_some hR
    rw [hrow0] at hi1 small
    have hno : ¬ (i < 0 ∨ (L.length : Int) < i) := by omega
    refine (tree_insert hl4 i x hx (by omega)).mono ?_
    rintro e w6 ⟨rfl, S1, hl6, hk6, hS1⟩
    rw [insErr, if_neg hno, if_neg hxL]
    rw [insList, if_neg hno, if_neg hxL] at hl6
    have hn0 : ∀ k, w.heap.size ≤ k → ¬ Sp p k := fun k hk hs => by have := h.splt hs; omega
    have hP6 := hP4.kp hk6 (hn0 _ (Nat.le_refl _))
    have hX6 := hX4.kp hk6 (hn0 _ (Nat.le_succ _))
    have hm6 := hG4.m.kp hk6 (fun k hk hs => (h.dis p k hs).2 (by
      rcases hk with rfl | hk
      · exact absurd rfl (h.dis p k hs).1
      · exact hk))
    have hK6 : Kp (Sp p) w w6 := (hK4.mono (fun _ _ h => h.elim)).trans hk6
    have hdis : ∀ k, S1 k → ¬ MS rm im bm k := fun k hk hm => by
      rcases hS1 k hk with h2 | h2
      · exact (h.dis p k h2).2 hm
      · have := h.m.lts (.inr hm); omega
    have hnew : ∀ k, S1 k → Sp p k ∨ w.heap.size ≤ k := fun k hk => by
      rcases hS1 k hk with h2 | h2
      · exact .inl h2
      · exact .inr (by omega)
    clear hG4 hP4 hX4 hK4 hk6 hl4 x0 x1 hS1
    have p0 := hP6.c0
    have p1 := hP6.c1
    have p2 := hP6.c2
    have x0 := hX6.c0
    have x1 := hX6.c1
    have hnwf := Lib.hid hn
    go_wp2_with fail
    refine (graph_comes hm6 p hp x hx n hnwf.out (true, b)).mono ?_
    rintro e w7 ⟨rfl, hm7, hk7⟩
    have hl7 := TreeAt.kp hl6 hk7 hdis
    go_wp2_with fail
    go_ret
    refine ⟨rfl, ?_⟩
    have hK7 : Kp (fun k => Sp p k ∨ MS rm im bm k) w w7 := (hK6.mono (fun _ _ h => .inl h)).trans (hk7.mono (fun _ _ h => .inr h))
    have hgw := gw_put h hm7 (show RowAt w7 true b S1 (insAt L i x) from hl7) hnew hK7 (gok_put hok hp hx hnwf.out (fun y => by rw [hrow0]; exact mem_insAt) (insAt_nodup hndL hxL) hInh.out hByh.out)
    rw [hrow0]
    refine ⟨_, ⟨rm, im, bm, _, _, hgw, fun k => Iff.rfl⟩, hK7.mono (fun k _ hk => (hS k).2 (hk.elim (fun h => .inr (.inr ⟨p, h⟩)) (fun h => .inr (.inl h)))), ?_⟩
    rintro k (rfl | hk | ⟨q, ⟨_, hk⟩ | ⟨_, hk⟩⟩)
    · exact .inl ((hS k).2 (.inl rfl))
    · exact .inl ((hS k).2 (.inr (.inl hk)))
    · exact (hnew k hk).imp (fun h => (hS k).2 (.inr (.inr ⟨p, h⟩))) id
    · exact .inl ((hS k).2 (.inr (.inr ⟨q, hk⟩)))

set_option maxRecDepth 100000 in
set_option maxHeartbeats 4000000 in
theorem gins_bad (h : GW w gb rm im bm B Sp g) (p : Plc) (hp : p.ok) (x : Hd) (hx : x.ok) (n : Int) (hn : nwf n) (i : Int) (_hS : ∀ k, S k ↔ (k = gb ∨ MS rm im bm k ∨ ∃ p, Sp p k)) (he : mayErrT g p x n = 0) (hbad : i < 0 ∨ ((rowL g p).length : Int) < i) (_small : (rowL g p).length < 1000000) :
    Calls Try.prog 28 #[.pointer (some ⟨gb, 0, .none⟩), .agg #[.int .i64 p.m, .int .i64 p.s, .int .i64 p.a], .int .i64 i, .agg #[.int .i64 x.s, .int .u64 x.g], .int .i64 n] w fun e w' =>
      e = .returned (.int .i64 2) ∧ Kp (fun _ => False) w w' := by
  have hK0 : Kp (fun _ => False) w ((w.alloc (.cells #[.int .i64 p.m, .int .i64 p.s, .int .i64 p.a] 55)).alloc (.cells #[.int .i64 x.s, .int .u64 x.g] 34)) := ((Kp.refl _ _).alloc _).alloc _
  obtain ⟨hp1, hx1⟩ := two_new w (.cells #[.int .i64 p.m, .int .i64 p.s, .int .i64 p.a] 55) (.cells #[.int .i64 x.s, .int .u64 x.g] 34)
  have hP : PBox ((w.alloc (.cells #[.int .i64 p.m, .int .i64 p.s, .int .i64 p.a] 55)).alloc (.cells #[.int .i64 x.s, .int .u64 x.g] 34)) w.heap.size p := hp1
  have hX : HBox ((w.alloc (.cells #[.int .i64 p.m, .int .i64 p.s, .int .i64 p.a] 55)).alloc (.cells #[.int .i64 x.s, .int .u64 x.g] 34)) (w.heap.size + 1) x := hx1
  have hG := h.kp0 hK0
  have hmy := h.may_ins p x n
  rw [he] at hmy
  obtain ⟨hIn, hTr, hBy⟩ := ins_zero he
  have hcs := Lib.hid (h.rowp_tree p)
  have hok := h.ok
  obtain ⟨rp, hrp⟩ : ∃ rp, rp = rowp B p true := ⟨_, rfl⟩
  rw [← hrp] at hmy
  have hmyh := Lib.hid hmy
  have hrph := Lib.hid hrp
  clear hp1 hx1 hmy hrp he
  go_enter Try.func28, Try.ntmps28
  go_wp2_with fail
  generalize (w.alloc (.cells #[.int .i64 p.m, .int .i64 p.s, .int .i64 p.a] 55)).alloc (.cells #[.int .i64 x.s, .int .u64 x.g] 34) = W at hK0 hP hX hG ⊢
  have p0 : ∀ q : Cls (Kp (fun _ => False) W), q.W.cell? ⟨w.heap.size, 0, .none⟩ = some (.int .i64 p.m) := fun q => (hP.kp0 q.h).c0
  have p1 : ∀ q : Cls (Kp (fun _ => False) W), q.W.cell? ⟨w.heap.size, 1, .none⟩ = some (.int .i64 p.s) := fun q => (hP.kp0 q.h).c1
  have p2 : ∀ q : Cls (Kp (fun _ => False) W), q.W.cell? ⟨w.heap.size, 2, .none⟩ = some (.int .i64 p.a) := fun q => (hP.kp0 q.h).c2
  have x0 : ∀ q : Cls (Kp (fun _ => False) W), q.W.cell? ⟨w.heap.size + 1, 0, .none⟩ = some (.int .i64 x.s) := fun q => (hX.kp0 q.h).c0
  have x1 : ∀ q : Cls (Kp (fun _ => False) W), q.W.cell? ⟨w.heap.size + 1, 1, .none⟩ = some (.int .u64 x.g) := fun q => (hX.kp0 q.h).c1
  have j53 : ∀ q : Cls (Kp (fun _ => False) W), Calls Try.prog 53 #[.pointer (some ⟨gb, 0, .none⟩)] q.W fun e w' => e = .returned (.bool true) ∧ ∃ r : Cls (Kp (fun _ => False) W), w' = r.W :=
    fun q => Calls.cls ((graph_made (hG.kp0 q.h).m).mono fun e w h => ⟨h.1, h.2 ▸ q.h⟩)
  have j58 : ∀ q : Cls (Kp (fun _ => False) W), Calls Try.prog 58 #[.pointer (some ⟨gb, 0, .none⟩), .agg #[.int .i64 p.m, .int .i64 p.s, .int .i64 p.a]] q.W fun e w' => e = .returned (.pointer (adr rp)) ∧ ∃ r : Cls (Kp (fun _ => False) W), w' = r.W :=
    fun q => Calls.cls ((graph_treed (hG.kp0 q.h).m p hp).mono fun e w h => ⟨hrph.out ▸ h.1, q.h.trans h.2⟩)
  have j52 : ∀ q : Cls (Kp (fun _ => False) W), Calls Try.prog 52 #[.pointer (some ⟨gb, 0, .none⟩), .agg #[.int .i64 p.m, .int .i64 p.s, .int .i64 p.a], .agg #[.int .i64 x.s, .int .u64 x.g], .int .i64 n, .bool rp.isSome] q.W fun e w' => e = .returned (.int .i64 0) ∧ ∃ r : Cls (Kp (fun _ => False) W), w' = r.W :=
    fun q => Calls.cls ((graph_may (hG.kp0 q.h).m p hp x hx n hn rp.isSome).mono fun e w h => ⟨hmyh.out ▸ h.1, q.h.trans h.2⟩)
  haveI : Nonempty (Cls (Kp (fun _ => False) W)) := ⟨⟨_, Kp.refl _ W⟩⟩
  have hkp : ∀ w', Kp (fun _ => False) W w' → PBox w' w.heap.size p ∧ HBox w' (w.heap.size + 1) x := fun w' hk => ⟨hP.kp0 hk, hX.kp0 hk⟩
  have hbh := Lib.hid hbad
  clear hbad
  have hInh := Lib.hid hIn
  have hByh := Lib.hid hBy
  have hTrh := Lib.hid hTr
  have hkph := Lib.hid hkp
  clear hIn hBy hTr hkp hP hX
  have hrcase : (rp = .none ∧ B p = .none ∧ g.R p = .none) ∨ ∃ b L, rp = some b ∧ B p = some (true, b) ∧ g.R p = some (true, L) ∧ TreeAt w b (Sp p) L := by
    rcases hcs.out with ⟨h1, h2, h3⟩ | ⟨b, L, h1, h2, h3, h4, _⟩
    · rcases h3 with h3 | ⟨h3, h4⟩
      · rw [hTrh.out] at h3; cases h3
      · exact .inl ⟨hrph.out.trans h1, h3, h4⟩
    · exact .inr ⟨b, L, hrph.out.trans h1, h2, h3, h4⟩
  clear hcs
  rcases hrcase with ⟨rfl, hB, hR⟩ | ⟨b, L, rfl, hB, hR, hLa⟩
  · simp only [adr_none, Option.isSome_none] at j58 j52
    refine wp_region_quiet_cls (Kp (fun _ => False) W) (by kernel_rfl) (by kernel_rfl) (Kp.refl _ W).drew ?_
    repeat (go_big_quiet_step (first
      | (go_at_call 53; with_reducible exact j53 _)
      | (go_at_call 58; with_reducible exact j58 _)
      | (go_at_call 52; with_reducible exact j52 _)))
    refine wpQuiet_nil ?_
    intro w3 hk3
    have hG3 := hG.kp0 hk3
    obtain ⟨hP3, hX3⟩ := hkph.out w3 hk3
    have hK3 := hK0.trans hk3
    clear p0 p1 p2 x0 x1 j52 j53 j58 hG hk3
    have p0 := hP3.c0
    have p1 := hP3.c1
    have p2 := hP3.c2
    go_wp2_with fail
    refine (graph_treed hG3.m p hp).mono ?_
    rintro e w4 ⟨rfl, hk4⟩
    rw [← hrph.out, adr_none]
    have hG4 := hG3.kp0 hk4
    have hP4 := hP3.kp0 hk4
    have hX4 := hX3.kp0 hk4
    have hK4 := hK3.trans hk4
    clear p0 p1 p2 hG3 hP3 hX3 hk4 hK3
    go_wp2_with fail
    refine (tree_new w4).mono ?_
    rintro e w5 ⟨lb, S0, rfl, hl5, hS0, hk5⟩
    have hG5 := hG4.kp0 hk5
    have hP5 := hP4.kp0 hk5
    have hX5 := hX4.kp0 hk5
    have hK5 := hK4.trans hk5
    have hsz : w.heap.size ≤ w4.heap.size := hK4.size
    have hb4 : w.heap.size + 1 < w4.heap.size := hX4.lt
    clear hG4 hP4 hX4 hK4 hk5
    have x0 := hX5.c0
    have x1 := hX5.c1
    go_wp2_with fail
    have hrow0 : rowL g p = [] := rowL_none hR
    have hbad := hbh.out
    rw [hrow0] at hbad
    refine (tree_insert_bad hl5 i x (by simpa using hbad)).mono ?_
    rintro e w6 ⟨rfl, hk6⟩
    clear hbad hX5 x0 x1
    go_wp2_with fail
    go_ret
    exact ⟨rfl, hK5.trans hk6⟩
  · simp only [adr_some, Option.isSome_some] at j58 j52
    refine wp_region_quiet_cls (Kp (fun _ => False) W) (by kernel_rfl) (by kernel_rfl) (Kp.refl _ W).drew ?_
    repeat (go_big_quiet_step (first
      | (go_at_call 53; with_reducible exact j53 _)
      | (go_at_call 58; with_reducible exact j58 _)
      | (go_at_call 52; with_reducible exact j52 _)))
    refine wpQuiet_nil ?_
    intro w3 hk3
    have hG3 := hG.kp0 hk3
    obtain ⟨hP3, hX3⟩ := hkph.out w3 hk3
    have hK3 := hK0.trans hk3
    clear p0 p1 p2 x0 x1 j52 j53 j58 hG hk3
    have p0 := hP3.c0
    have p1 := hP3.c1
    have p2 := hP3.c2
    go_wp2_with fail
    refine (graph_treed hG3.m p hp).mono ?_
    rintro e w4 ⟨rfl, hk4⟩
    rw [← hrph.out, adr_some]
    have hG4 := hG3.kp0 hk4
    have hP4 := hP3.kp0 hk4
    have hX4 := hX3.kp0 hk4
    have hK4 := hK3.trans hk4
    have hsz : w.heap.size ≤ w4.heap.size := hK4.size
    have hb4 : w.heap.size + 1 < w4.heap.size := hX4.lt
    clear p0 p1 p2 hG3 hP3 hX3 hk4 hK3
    have hl4 := TreeAt.kp hLa hK4 (fun _ _ h => h)
    have hxL : x ∉ L := fun hm => by
      obtain ⟨m, hm⟩ := hok.by2 p true L x hR hm
      rw [hByh.out] at hm
      cases hm
    have hndL := hok.nd p true L hR
    have x0 := hX4.c0
    have x1 := hX4.c1
    go_wp2_with fail
    have hrow0 : rowL g p = L := rowL_some hR
    have hbad := hbh.out
    rw [hrow0] at hbad
    refine (tree_insert_bad hl4 i x hbad).mono ?_
    rintro e w6 ⟨rfl, hk6⟩
    clear hbad x0 x1
    go_wp2_with fail
    go_ret
    exact ⟨rfl, hK4.trans hk6⟩

/-- What Insert answers. -/
def gInsErr (g : GS) (p : Plc) (i : Int) (x : Hd) (n : Int) : Int := if mayErrT g p x n ≠ 0 then mayErrT g p x n else if i < 0 ∨ ((rowL g p).length : Int) < i then 2 else 0
open Classical in
/-- A graph behind an Insert. -/
noncomputable def gIns (g : GS) (p : Plc) (i : Int) (x : Hd) (n : Int) : GS := if gInsErr g p i x n = 0 then gput g p true (insAt (rowL g p) i x) x n else g
theorem gr_insert (h : GraphAt w gb S g) (p : Plc) (hp : p.ok) (i : Int) (x : Hd) (hx : x.ok) (n : Int) (hn : nwf n) (small : (rowL g p).length < 1000000) :
    Calls Try.prog 28 #[.pointer (some ⟨gb, 0, .none⟩), .agg #[.int .i64 p.m, .int .i64 p.s, .int .i64 p.a], .int .i64 i, .agg #[.int .i64 x.s, .int .u64 x.g], .int .i64 n] w fun e w' =>
      e = .returned (.int .i64 (gInsErr g p i x n)) ∧ PutPost w gb S (gIns g p i x n) w' := by
  have h0 := h
  obtain ⟨rm, im, bm, B, Sp, h1, h2⟩ := h
  by_cases he : mayErrT g p x n = 0
  · by_cases hb : i < 0 ∨ ((rowL g p).length : Int) < i
    · have e : gInsErr g p i x n = 2 := by simp only [gInsErr, he, ne_eq, not_true, if_false, if_pos hb]
      have e2 : gIns g p i x n = g := by unfold gIns; rw [if_neg (by rw [e]; decide)]
      rw [e, e2]
      refine (gins_bad h1 p hp x hx n hn i h2 he hb small).mono ?_
      rintro e w' ⟨rfl, hk⟩
      exact ⟨rfl, S, h0.kp0 hk, hk.mono (fun _ _ h => h.elim), fun k hk => .inl hk⟩
    · have e : gInsErr g p i x n = 0 := by simp only [gInsErr, he, ne_eq, not_true, if_false, if_neg hb]
      have e2 : gIns g p i x n = gput g p true (insAt (rowL g p) i x) x n := by unfold gIns; rw [if_pos e]
      rw [e, e2]
      exact gins_ok h1 p hp x hx n hn i h2 he (by omega) (by omega) small
  · have e : gInsErr g p i x n = mayErrT g p x n := by simp only [gInsErr, ne_eq, he, not_false_eq_true, if_true]
    have e2 : gIns g p i x n = g := by unfold gIns; rw [if_neg (by rw [e]; exact he)]
    rw [e, e2]
    refine (gins_err h1 p hp x hx n hn i he).mono ?_
    rintro e w' ⟨rfl, hk⟩
    exact ⟨rfl, S, h0.kp0 hk, hk.mono (fun _ _ h => h.elim), fun k hk => .inl hk⟩
end
end Go.Proofs.Ytimhbnlgambcaaa
