/- A graph as plain data, and where it lies; what putting and taking away leave. -/
import Derived.Test.YtimhbnlgambcaaaGg
import Derived.Test.YtimhbnlgambcaaaGf
namespace Go.Proofs.Ytimhbnlgambcaaa
open Go.RowKit

/-- A graph: the row at each place; the place of each node; by which node a handle is at a place. -/
structure GS where
  R : Plc → Option (Bool × List Hd)
  In : Hd × Int → Option Plc
  By : Plc × Hd → Option Int

def nwf (n : Int) : Prop := (Lit.int .i64 n).wf = true

/-- Its parts agree. -/
structure GOk (g : GS) : Prop where
  ne : ∀ p t L, g.R p = some (t, L) → L ≠ []
  nd : ∀ p t L, g.R p = some (t, L) → L.Nodup
  by1 : ∀ p x n, g.By (p, x) = some n → ∃ t L, g.R p = some (t, L) ∧ x ∈ L
  by2 : ∀ p t L x, g.R p = some (t, L) → x ∈ L → ∃ n, g.By (p, x) = some n
  bi : ∀ p x n, g.By (p, x) = some n ↔ g.In (x, n) = some p
  pok : ∀ p r, g.R p = some r → p.ok
  nok : ∀ p x n, g.By (p, x) = some n → x.ok ∧ nwf n

def rowL (g : GS) (p : Plc) : List Hd := match g.R p with
  | some (_, L) => L
  | .none => []
noncomputable def gput (g : GS) (p : Plc) (t : Bool) (L : List Hd) (x : Hd) (n : Int) : GS := ⟨eput g.R p (t, L), eput g.In (x, n) p, eput g.By (p, x) n⟩
open Classical in
noncomputable def gdel (g : GS) (p : Plc) (t : Bool) (L : List Hd) (x : Hd) (n : Int) : GS := ⟨if L = [] then edel g.R p else eput g.R p (t, L), edel g.In (x, n), edel g.By (p, x)⟩

theorem rowL_some {g : GS} {p : Plc} {t : Bool} {L : List Hd} (h : g.R p = some (t, L)) : rowL g p = L := by simp [rowL, h]
theorem rowL_none {g : GS} {p : Plc} (h : g.R p = .none) : rowL g p = [] := by simp [rowL, h]

theorem gok_put {g : GS} (h : GOk g) {p : Plc} (hp : p.ok) {t : Bool} {L : List Hd} {x : Hd} (hx : x.ok) {n : Int} (hn : nwf n) (hL : ∀ y, y ∈ L ↔ y = x ∨ y ∈ rowL g p) (hnd : L.Nodup) (hIn : g.In (x, n) = .none) (hBy : g.By (p, x) = .none) : GOk (gput g p t L x n) := by
  have hne : L ≠ [] := fun e => by have := (hL x).2 (.inl rfl); rw [e] at this; cases this
  refine ⟨?_, ?_, ?_, ?_, ?_, ?_, ?_⟩
  · intro q t' L' hq
    by_cases e : q = p
    · subst e
      simp only [gput] at hq; rw [eput_same] at hq
      cases hq
      exact hne
    · simp only [gput] at hq; rw [eput_other _ _ _ _ e] at hq
      exact h.ne q t' L' hq
  · intro q t' L' hq
    by_cases e : q = p
    · subst e
      simp only [gput] at hq; rw [eput_same] at hq
      cases hq
      exact hnd
    · simp only [gput] at hq; rw [eput_other _ _ _ _ e] at hq
      exact h.nd q t' L' hq
  · intro q y m hq
    by_cases e : (q, y) = (p, x)
    · cases e
      exact ⟨t, L, by simp only [gput]; rw [eput_same], (hL x).2 (.inl rfl)⟩
    · simp only [gput] at hq; rw [eput_other _ _ _ _ e] at hq
      obtain ⟨t', L', h1, h2⟩ := h.by1 q y m hq
      by_cases e' : q = p
      · subst e'
        exact ⟨t, L, by simp only [gput]; rw [eput_same], (hL y).2 (.inr (by rw [rowL_some h1]; exact h2))⟩
      · exact ⟨t', L', by simp only [gput]; rw [eput_other _ _ _ _ e']; exact h1, h2⟩
  · intro q t' L' y hq hy
    by_cases e : (q, y) = (p, x)
    · cases e
      exact ⟨n, by simp only [gput]; rw [eput_same]⟩
    · have : ∃ t'' L'', g.R q = some (t'', L'') ∧ y ∈ L'' := by
        by_cases e' : q = p
        · subst e'
          simp only [gput] at hq; rw [eput_same] at hq
          cases hq
          have hyx : y ≠ x := fun e2 => e (by rw [e2])
          rcases (hL y).1 hy with h1 | h1
          · exact absurd h1 hyx
          · unfold rowL at h1
            cases e3 : g.R q with
            | none => rw [e3] at h1; cases h1
            | some r => rw [e3] at h1; exact ⟨r.1, r.2, rfl, h1⟩
        · simp only [gput] at hq; rw [eput_other _ _ _ _ e'] at hq
          exact ⟨t', L', hq, hy⟩
      obtain ⟨t'', L'', h1, h2⟩ := this
      obtain ⟨m, hm⟩ := h.by2 q t'' L'' y h1 h2
      exact ⟨m, by simp only [gput]; rw [eput_other _ _ _ _ e]; exact hm⟩
  · intro q y m
    simp only [gput]
    by_cases e : (q, y) = (p, x)
    · cases e
      rw [eput_same]
      by_cases e' : m = n
      · subst e'
        rw [eput_same]
        simp
      · have e2 : (x, m) ≠ (x, n) := fun e3 => e' (by simpa using e3)
        rw [eput_other _ _ _ _ e2]
        have h1 : g.In (x, m) ≠ some p := fun e3 => by rw [(h.bi p x m).2 e3] at hBy; cases hBy
        constructor
        · intro e3; exact absurd (by simpa using e3.symm) e'
        · intro e3; exact absurd e3 h1
    · rw [eput_other _ _ _ _ e, h.bi]
      by_cases e2 : (y, m) = (x, n)
      · cases e2
        rw [eput_same, hIn]
        constructor
        · intro e3; cases e3
        · intro e3; cases e3; exact absurd rfl e
      · rw [eput_other _ _ _ _ e2]
  · intro q r hq
    by_cases e : q = p
    · rw [e]; exact hp
    · simp only [gput] at hq; rw [eput_other _ _ _ _ e] at hq
      exact h.pok q r hq
  · intro q y m hq
    by_cases e : (q, y) = (p, x)
    · cases e
      simp only [gput] at hq; rw [eput_same] at hq
      cases hq
      exact ⟨hx, hn⟩
    · simp only [gput] at hq; rw [eput_other _ _ _ _ e] at hq
      exact h.nok q y m hq

theorem gok_del {g : GS} (h : GOk g) {p : Plc} {t : Bool} {L L' : List Hd} {x : Hd} {n : Int} (hR : g.R p = some (t, L)) (hL : ∀ y, y ∈ L' ↔ y ≠ x ∧ y ∈ L) (hnd : L'.Nodup) (hBy : g.By (p, x) = some n) : GOk (gdel g p t L' x n) := by
  have hr : ∀ q, q ≠ p → (gdel g p t L' x n).R q = g.R q := by
    intro q e
    simp only [gdel]
    split
    · exact edel_other _ _ _ e
    · exact eput_other _ _ _ _ e
  have hrp : ∀ t' M, (gdel g p t L' x n).R p = some (t', M) → t' = t ∧ M = L' ∧ L' ≠ [] := by
    intro t' M e
    simp only [gdel] at e
    split at e
    · rw [edel_same] at e; cases e
    · rename_i hne
      rw [eput_same] at e
      cases e
      exact ⟨rfl, rfl, hne⟩
  have hrn : L' ≠ [] → (gdel g p t L' x n).R p = some (t, L') := by
    intro e
    simp only [gdel, if_neg e, eput_same]
  refine ⟨?_, ?_, ?_, ?_, ?_, ?_, ?_⟩
  · intro q t' M hq
    by_cases e : q = p
    · subst e
      obtain ⟨_, rfl, h3⟩ := hrp _ _ hq
      exact h3
    · rw [hr q e] at hq
      exact h.ne q t' M hq
  · intro q t' M hq
    by_cases e : q = p
    · subst e
      obtain ⟨_, rfl, h3⟩ := hrp _ _ hq
      exact hnd
    · rw [hr q e] at hq
      exact h.nd q t' M hq
  · intro q y m hq
    by_cases e : (q, y) = (p, x)
    · rw [e] at hq; simp only [gdel] at hq; rw [edel_same] at hq; cases hq
    · simp only [gdel] at hq; rw [edel_other _ _ _ e] at hq
      obtain ⟨t', M, h1, h2⟩ := h.by1 q y m hq
      by_cases e' : q = p
      · subst e'
        rw [hR] at h1
        cases h1
        have hy : y ∈ L' := (hL y).2 ⟨fun e2 => e (by rw [e2]), h2⟩
        exact ⟨t, L', hrn (fun e2 => by rw [e2] at hy; cases hy), hy⟩
      · exact ⟨t', M, by rw [hr q e']; exact h1, h2⟩
  · intro q t' M y hq hy
    have : ∃ t'' M', g.R q = some (t'', M') ∧ y ∈ M' ∧ (q, y) ≠ (p, x) := by
      by_cases e' : q = p
      · subst e'
        obtain ⟨_, rfl, _⟩ := hrp _ _ hq
        exact ⟨t, L, hR, ((hL y).1 hy).2, fun e => ((hL y).1 hy).1 (by simpa using e)⟩
      · rw [hr q e'] at hq
        exact ⟨t', M, hq, hy, fun e => e' (by simp at e; exact e.1)⟩
    obtain ⟨t'', M', h1, h2, h3⟩ := this
    obtain ⟨m, hm⟩ := h.by2 q t'' M' y h1 h2
    exact ⟨m, by simp only [gdel]; rw [edel_other _ _ _ h3]; exact hm⟩
  · intro q y m
    simp only [gdel]
    by_cases e : (q, y) = (p, x)
    · cases e
      rw [edel_same]
      by_cases e' : m = n
      · subst e'
        rw [edel_same]
        simp
      · have e2 : (x, m) ≠ (x, n) := fun e3 => e' (by simpa using e3)
        rw [edel_other _ _ _ e2, ← h.bi, hBy]
        constructor
        · intro e3; cases e3
        · intro e3; exact absurd (by simpa using e3.symm) e'
    · rw [edel_other _ _ _ e, h.bi]
      by_cases e2 : (y, m) = (x, n)
      · cases e2
        rw [edel_same, ((h.bi p x n).1 hBy)]
        constructor
        · intro e3; cases e3; exact absurd rfl e
        · intro e3; cases e3
      · rw [edel_other _ _ _ e2]
  · intro q r hq
    by_cases e : q = p
    · rw [e]; exact h.pok p _ hR
    · rw [hr q e] at hq
      exact h.pok q r hq
  · intro q y m hq
    by_cases e : (q, y) = (p, x)
    · rw [e] at hq; simp only [gdel] at hq; rw [edel_same] at hq; cases hq
    · simp only [gdel] at hq; rw [edel_other _ _ _ e] at hq
      exact h.nok q y m hq
end Go.Proofs.Ytimhbnlgambcaaa
