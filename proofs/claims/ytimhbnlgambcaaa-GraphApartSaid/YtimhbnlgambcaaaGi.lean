/- Where a graph lies; its reading methods in those words. -/
import Derived.Test.YtimhbnlgambcaaaGh
namespace Go.Proofs.Ytimhbnlgambcaaa
open Go.RowKit Go.BigFrame

structure GW (w : World) (gb rm im bm : Nat) (B : Plc → Option (Bool × Nat)) (Sp : Plc → Nat → Prop) (g : GS) : Prop where
  m : GM w gb rm im bm B g.In g.By
  r : ∀ p t b, B p = some (t, b) → ∃ L, g.R p = some (t, L) ∧ RowAt w t b (Sp p) L
  n : ∀ p, B p = .none → g.R p = .none ∧ ∀ k, ¬ Sp p k
  sep : ∀ p q k, Sp p k → Sp q k → p = q
  dis : ∀ p k, Sp p k → k ≠ gb ∧ ¬ MS rm im bm k
  ok : GOk g
/-- At block gb lies the graph g, through the blocks S. -/
def GraphAt (w : World) (gb : Nat) (S : Nat → Prop) (g : GS) : Prop := ∃ rm im bm B Sp, GW w gb rm im bm B Sp g ∧ ∀ k, S k ↔ (k = gb ∨ MS rm im bm k ∨ ∃ p, Sp p k)

section
variable {w w' : World} {gb rm im bm : Nat} {B : Plc → Option (Bool × Nat)} {Sp : Plc → Nat → Prop} {g : GS} {S : Nat → Prop}
theorem GW.splt (h : GW w gb rm im bm B Sp g) {p : Plc} {k : Nat} (hk : Sp p k) : k < w.heap.size := by
  cases e : B p with
  | none => exact absurd hk ((h.n p e).2 k)
  | some r =>
    obtain ⟨t, b⟩ := r
    obtain ⟨L, _, hr⟩ := h.r p t b e
    exact hr.lt hk
theorem GraphAt.lt (h : GraphAt w gb S g) {k : Nat} (hk : S k) : k < w.heap.size := by
  obtain ⟨rm, im, bm, B, Sp, h1, h2⟩ := h
  rcases (h2 k).1 hk with rfl | hk | ⟨p, hk⟩
  · exact h1.m.lt
  · exact h1.m.lts (.inr hk)
  · exact h1.splt hk
theorem GraphAt.self (h : GraphAt w gb S g) : S gb := by
  obtain ⟨rm, im, bm, B, Sp, h1, h2⟩ := h
  exact (h2 gb).2 (.inl rfl)
theorem GraphAt.ok (h : GraphAt w gb S g) : GOk g := by
  obtain ⟨rm, im, bm, B, Sp, h1, h2⟩ := h
  exact h1.ok
theorem GW.kp (h : GW w gb rm im bm B Sp g) {R : Nat → Prop} (hk : Kp R w w') (hd : ∀ k, k = gb ∨ MS rm im bm k ∨ (∃ p, Sp p k) → ¬ R k) : GW w' gb rm im bm B Sp g :=
  ⟨h.m.kp hk (fun k hk' => hd k (hk'.elim .inl (fun h => .inr (.inl h)))), fun p t b hB => by
    obtain ⟨L, h1, h2⟩ := h.r p t b hB
    exact ⟨L, h1, h2.kp hk (fun k hk' => hd k (.inr (.inr ⟨p, hk'⟩)))⟩, h.n, h.sep, h.dis, h.ok⟩
theorem GW.kp0 (h : GW w gb rm im bm B Sp g) (hk : Kp (fun _ => False) w w') : GW w' gb rm im bm B Sp g := h.kp hk (fun _ _ h => h)
theorem GraphAt.kp (h : GraphAt w gb S g) {R : Nat → Prop} (hk : Kp R w w') (hd : ∀ k, S k → ¬ R k) : GraphAt w' gb S g := by
  obtain ⟨rm, im, bm, B, Sp, h1, h2⟩ := h
  exact ⟨rm, im, bm, B, Sp, h1.kp hk (fun k hk' => hd k ((h2 k).2 hk')), h2⟩
theorem GraphAt.kp0 (h : GraphAt w gb S g) (hk : Kp (fun _ => False) w w') : GraphAt w' gb S g := h.kp hk (fun _ _ h => h)

theorem gw_put (h : GW w gb rm im bm B Sp g) {p : Plc} {t : Bool} {b : Nat} {S1 : Nat → Prop} {L1 : List Hd} {x : Hd} {n : Int}
    (hm : GM w' gb rm im bm (eput B p (t, b)) (eput g.In (x, n) p) (eput g.By (p, x) n)) (hr : RowAt w' t b S1 L1) (hS : ∀ k, S1 k → Sp p k ∨ w.heap.size ≤ k) (hk : Kp (fun k => Sp p k ∨ MS rm im bm k) w w') (hok : GOk (gput g p t L1 x n)) :
    GW w' gb rm im bm (eput B p (t, b)) (fun q k => (q = p ∧ S1 k) ∨ (q ≠ p ∧ Sp q k)) (gput g p t L1 x n) := by
  have hrow : ∀ q, q ≠ p → ∀ t' b', B q = some (t', b') → ∃ L, g.R q = some (t', L) ∧ RowAt w' t' b' (fun k => (q = p ∧ S1 k) ∨ (q ≠ p ∧ Sp q k)) L := by
    intro q hq t' b' hB
    obtain ⟨L, h1, h2⟩ := h.r q t' b' hB
    have e : (fun k => (q = p ∧ S1 k) ∨ (q ≠ p ∧ Sp q k)) = Sp q := by funext k; simp [hq]
    rw [e]
    exact ⟨L, h1, h2.kp hk (fun k hk' hR => hR.elim (fun h' => hq (h.sep q p k hk' h')) (h.dis q k hk').2)⟩
  refine ⟨hm, ?_, ?_, ?_, ?_, hok⟩
  · intro q t' b' hB
    by_cases e : q = p
    · subst e
      rw [eput_same] at hB
      cases hB
      have e2 : (fun k => (q = q ∧ S1 k) ∨ (q ≠ q ∧ Sp q k)) = S1 := by funext k; simp
      exact ⟨L1, by simp only [gput]; rw [eput_same], by rw [e2]; exact hr⟩
    · rw [eput_other _ _ _ _ e] at hB
      obtain ⟨L, h1, h2⟩ := hrow q e t' b' hB
      exact ⟨L, by simp only [gput]; rw [eput_other _ _ _ _ e]; exact h1, h2⟩
  · intro q hB
    by_cases e : q = p
    · subst e
      rw [eput_same] at hB
      cases hB
    · rw [eput_other _ _ _ _ e] at hB
      obtain ⟨h1, h2⟩ := h.n q hB
      refine ⟨by simp only [gput]; rw [eput_other _ _ _ _ e]; exact h1, fun k hk' => ?_⟩
      rcases hk' with ⟨h3, _⟩ | ⟨_, h3⟩
      · exact e h3
      · exact h2 k h3
  · intro q q' k h1 h2
    rcases h1 with ⟨rfl, h1⟩ | ⟨h0, h1⟩ <;> rcases h2 with ⟨rfl, h2⟩ | ⟨h0', h2⟩
    · rfl
    · exfalso
      rcases hS k h1 with h3 | h3
      · exact h0' (h.sep _ _ k h2 h3)
      · have := h.splt h2; omega
    · exfalso
      rcases hS k h2 with h3 | h3
      · exact h0 (h.sep _ _ k h1 h3)
      · have := h.splt h1; omega
    · exact h.sep _ _ k h1 h2
  · intro q k h1
    rcases h1 with ⟨rfl, h1⟩ | ⟨_, h1⟩
    · rcases hS k h1 with h3 | h3
      · exact h.dis _ k h3
      · refine ⟨fun e => ?_, fun e => ?_⟩
        · have := h.m.lt; omega
        · have := h.m.lts (.inr e); omega
    · exact h.dis q k h1

open Classical in
theorem gw_del (h : GW w gb rm im bm B Sp g) {p : Plc} {t : Bool} {b : Nat} {S1 : Nat → Prop} {L1 : List Hd} {x : Hd} {n : Int} (hB0 : B p = some (t, b))
    (hm : GM w' gb rm im bm (if L1 = [] then edel B p else B) (edel g.In (x, n)) (edel g.By (p, x))) (hr : RowAt w' t b S1 L1) (hS : ∀ k, S1 k → Sp p k) (hk : Kp (fun k => Sp p k ∨ MS rm im bm k) w w') (hok : GOk (gdel g p t L1 x n)) :
    GW w' gb rm im bm (if L1 = [] then edel B p else B) (fun q k => (q = p ∧ L1 ≠ [] ∧ S1 k) ∨ (q ≠ p ∧ Sp q k)) (gdel g p t L1 x n) := by
  have hBq : ∀ q, q ≠ p → (if L1 = [] then edel B p else B) q = B q := by
    intro q e
    split
    · exact edel_other _ _ _ e
    · rfl
  have hRq : ∀ q, q ≠ p → (gdel g p t L1 x n).R q = g.R q := by
    intro q e
    simp only [gdel]
    split
    · exact edel_other _ _ _ e
    · exact eput_other _ _ _ _ e
  refine ⟨hm, ?_, ?_, ?_, ?_, hok⟩
  · intro q t' b' hB
    by_cases e : q = p
    · subst e
      by_cases hn : L1 = []
      · rw [if_pos hn, edel_same] at hB
        cases hB
      · rw [if_neg hn, hB0] at hB
        cases hB
        have e2 : (fun k => (q = q ∧ L1 ≠ [] ∧ S1 k) ∨ (q ≠ q ∧ Sp q k)) = S1 := by funext k; simp [hn]
        exact ⟨L1, by simp only [gdel, if_neg hn, eput_same], by rw [e2]; exact hr⟩
    · rw [hBq q e] at hB
      obtain ⟨L, h1, h2⟩ := h.r q t' b' hB
      have e2 : (fun k => (q = p ∧ L1 ≠ [] ∧ S1 k) ∨ (q ≠ p ∧ Sp q k)) = Sp q := by funext k; simp [e]
      rw [e2, hRq q e]
      exact ⟨L, h1, h2.kp hk (fun k hk' hR => hR.elim (fun h' => e (h.sep q p k hk' h')) (h.dis q k hk').2)⟩
  · intro q hB
    by_cases e : q = p
    · subst e
      by_cases hn : L1 = []
      · refine ⟨by simp only [gdel, if_pos hn, edel_same], fun k hk' => ?_⟩
        rcases hk' with ⟨_, h3, _⟩ | ⟨h3, _⟩
        · exact h3 hn
        · exact h3 rfl
      · rw [if_neg hn, hB0] at hB
        cases hB
    · rw [hBq q e] at hB
      obtain ⟨h1, h2⟩ := h.n q hB
      refine ⟨by rw [hRq q e]; exact h1, fun k hk' => ?_⟩
      rcases hk' with ⟨h3, _⟩ | ⟨_, h3⟩
      · exact e h3
      · exact h2 k h3
  · intro q q' k h1 h2
    have hx1 : Sp q k := by
      rcases h1 with ⟨rfl, _, h1⟩ | ⟨_, h1⟩
      · exact hS k h1
      · exact h1
    have hx2 : Sp q' k := by
      rcases h2 with ⟨rfl, _, h1⟩ | ⟨_, h1⟩
      · exact hS k h1
      · exact h1
    exact h.sep q q' k hx1 hx2
  · intro q k h1
    have hx1 : Sp q k := by
      rcases h1 with ⟨rfl, _, h1⟩ | ⟨_, h1⟩
      · exact hS k h1
      · exact h1
    exact h.dis q k hx1

/-! ### The reading methods -/
theorem gr_new (w : World) : Calls Try.prog 25 #[] w fun e w' => ∃ gb S, e = .returned (.pointer (some ⟨gb, 0, .none⟩)) ∧ GraphAt w' gb S ⟨fun _ => .none, fun _ => .none, fun _ => .none⟩ ∧ (∀ k, S k → w.heap.size ≤ k) ∧ Kp (fun _ => False) w w' := by
  refine (graph_new w).mono ?_
  rintro e w' ⟨gb, rm, im, bm, rfl, hm, hn, hk⟩
  refine ⟨gb, fun k => k = gb ∨ MS rm im bm k, rfl, ⟨rm, im, bm, fun _ => .none, fun _ _ => False, ⟨hm, (fun _ _ _ h => by cases h), (fun _ _ => ⟨rfl, fun _ h => h⟩), (fun _ _ _ h => h.elim), (fun _ _ h => h.elim), ⟨?_, ?_, ?_, ?_, ?_, ?_, ?_⟩⟩, fun k => by simp⟩, fun k hk => hn k hk, hk⟩
  all_goals intros; simp_all
theorem gr_len (h : GraphAt w gb S g) (p : Plc) (hp : p.ok) : Calls Try.prog 31 #[.pointer (some ⟨gb, 0, .none⟩), .agg #[.int .i64 p.m, .int .i64 p.s, .int .i64 p.a]] w fun e w' => e = .returned (.int .i64 (rowL g p).length) ∧ Kp (fun _ => False) w w' := by
  obtain ⟨rm, im, bm, B, Sp, h1, h2⟩ := h
  cases hB : B p with
  | none => rw [rowL_none (h1.n p hB).1]; exact glen_none h1.m p hp hB
  | some r =>
    obtain ⟨t, b⟩ := r
    obtain ⟨L, h3, h4⟩ := h1.r p t b hB
    rw [rowL_some h3]
    exact glen_some h1.m p hp hB h4
/-- The kind of what is at a place: nothing (0), a list (1), a tree (2). -/
def gkind (g : GS) (p : Plc) : Int := match g.R p with
  | .none => 0
  | some (false, _) => 1
  | some (true, _) => 2
theorem gr_kind (h : GraphAt w gb S g) (p : Plc) (hp : p.ok) : Calls Try.prog 32 #[.pointer (some ⟨gb, 0, .none⟩), .agg #[.int .i64 p.m, .int .i64 p.s, .int .i64 p.a]] w fun e w' => e = .returned (.int .u8 (gkind g p)) ∧ Kp (fun _ => False) w w' := by
  obtain ⟨rm, im, bm, B, Sp, h1, h2⟩ := h
  cases hB : B p with
  | none =>
    have := (h1.n p hB).1
    simp only [gkind, this]
    exact gkind_none h1.m p hp hB
  | some r =>
    obtain ⟨t, b⟩ := r
    obtain ⟨L, h3, h4⟩ := h1.r p t b hB
    have e : gkind g p = kindOf B p := by simp only [gkind, h3, kindOf, hB]; cases t <;> rfl
    rw [e]
    exact gkind_some h1.m p hp hB h4 (h1.ok.ne p t L h3)
theorem gr_at (h : GraphAt w gb S g) (p : Plc) (hp : p.ok) (small : (rowL g p).length ≤ 1000000) (i : Int) (y : Hd) (is : Bool) (hy : GAt (rowL g p) i y is) :
    Calls Try.prog 33 #[.pointer (some ⟨gb, 0, .none⟩), .agg #[.int .i64 p.m, .int .i64 p.s, .int .i64 p.a], .int .i64 i] w fun e w' => e = .returned (.tuple #[.agg #[.int .i64 y.s, .int .u64 y.g], .bool is]) ∧ Kp (fun _ => False) w w' := by
  rcases hy with ⟨k, rfl, hk, rfl⟩ | ⟨hn, rfl, rfl⟩
  · obtain ⟨rm, im, bm, B, Sp, h1, h2⟩ := h
    cases hB : B p with
    | none =>
      rw [rowL_none (h1.n p hB).1] at hk
      simp at hk
    | some r =>
      obtain ⟨t, b⟩ := r
      obtain ⟨L, h3, h4⟩ := h1.r p t b hB
      rw [rowL_some h3] at hk small
      exact gat_in h1.m p hp hB h4 small k y hk
  · by_cases hi : i < 0
    · exact gat_neg gb p i hi
    · exact gat_big gb p i (by omega) (rowL g p).length (by omega) (fun w1 hk => gr_len (h.kp0 hk) p hp)
theorem gr_in (h : GraphAt w gb S g) (x : Hd) (hx : x.ok) (n : Int) (hn : nwf n) :
    Calls Try.prog 35 #[.pointer (some ⟨gb, 0, .none⟩), .agg #[.int .i64 x.s, .int .u64 x.g], .int .i64 n] w fun e w' =>
      e = .returned (.tuple #[.agg #[.int .i64 ((g.In (x, n)).getD ⟨0, 0, 0⟩).m, .int .i64 ((g.In (x, n)).getD ⟨0, 0, 0⟩).s, .int .i64 ((g.In (x, n)).getD ⟨0, 0, 0⟩).a], .bool (g.In (x, n)).isSome]) ∧ Kp (fun _ => False) w w' := by
  obtain ⟨rm, im, bm, B, Sp, h1, h2⟩ := h
  exact graph_in h1.m x hx n hn
end
end Go.Proofs.Ytimhbnlgambcaaa
