/- GraphApart, in plain words: two graphs that agree at one place, whatever happens at another. -/
import Derived.Test.YtimhbnlgambcaaaGo
namespace Go.Proofs.Ytimhbnlgambcaaa

def P1 : Plc := ⟨1, 0, 0⟩
def P2 : Plc := ⟨2, 0, 0⟩
theorem P12 : P2 ≠ P1 := by decide

/-- g has what a has at the first place; its own handles at the second. -/
structure Ap (g a : GS) : Prop where
  r : g.R P1 = a.R P1
  i : ∀ x : Hd, x.g = 1 → g.In (x, 8) = a.In (x, 8)
  b : ∀ x : Hd, g.By (P1, x) = a.By (P1, x)
  p1 : ∀ x ∈ rowL g P1, x.g = 1
  p2 : ∀ x ∈ rowL g P2, x.g = 2
  n8 : ∀ p x n, g.By (p, x) = some n → n = 8

theorem Ap.row {g a : GS} (h : Ap g a) : rowL g P1 = rowL a P1 := by simp only [rowL, h.r]
theorem Ap.tree {g a : GS} (h : Ap g a) : isTreeG g P1 = isTreeG a P1 := by simp only [isTreeG, h.r]
theorem Ap.list {g a : GS} (h : Ap g a) : isListG g P1 = isListG a P1 := by simp only [isListG, h.r]
theorem Ap.kind {g a : GS} (h : Ap g a) : gkind g P1 = gkind a P1 := by simp only [gkind, h.r]
theorem Ap.pushErr {g a : GS} (h : Ap g a) {x : Hd} (hx : x.g = 1) : pushErr g P1 x 8 = pushErr a P1 x 8 := by simp only [Proofs.Ytimhbnlgambcaaa.pushErr, h.i x hx, h.b x, h.tree]
theorem Ap.mayErr {g a : GS} (h : Ap g a) {x : Hd} (hx : x.g = 1) : mayErrT g P1 x 8 = mayErrT a P1 x 8 := by simp only [mayErrT, h.i x hx, h.b x, h.list]
theorem Ap.insErr {g a : GS} (h : Ap g a) {x : Hd} (hx : x.g = 1) (i : Int) : gInsErr g P1 i x 8 = gInsErr a P1 i x 8 := by simp only [gInsErr, h.mayErr hx, h.row]
theorem Ap.gEnd {g a : GS} (h : Ap g a) (front : Bool) : gEnd g P1 front = gEnd a P1 front := by simp only [Proofs.Ytimhbnlgambcaaa.gEnd, h.list, h.row]

theorem rowL_gput_same (g : GS) (p : Plc) (t : Bool) (L : List Hd) (x : Hd) (n : Int) : rowL (gput g p t L x n) p = L := by simp [rowL, gput, eput_same]
theorem rowL_gput_other (g : GS) (p q : Plc) (t : Bool) (L : List Hd) (x : Hd) (n : Int) (h : q ≠ p) : rowL (gput g p t L x n) q = rowL g q := by simp [rowL, gput, eput_other _ _ _ _ h]
theorem rowL_gdel_same (g : GS) (p : Plc) (t : Bool) (L : List Hd) (x : Hd) (n : Int) : rowL (gdel g p t L x n) p = L := by
  by_cases h : L = [] <;> simp [rowL, gdel, h, edel_same, eput_same]
theorem R_gdel_other (g : GS) (p q : Plc) (t : Bool) (L : List Hd) (x : Hd) (n : Int) (h : q ≠ p) : (gdel g p t L x n).R q = g.R q := by
  by_cases h' : L = [] <;> simp [gdel, h', edel_other _ _ _ h, eput_other _ _ _ _ h]
theorem rowL_gdel_other (g : GS) (p q : Plc) (t : Bool) (L : List Hd) (x : Hd) (n : Int) (h : q ≠ p) : rowL (gdel g p t L x n) q = rowL g q := by simp only [rowL, R_gdel_other _ _ _ _ _ _ _ h]

/-- Both take the same at the first place. -/
theorem Ap.putBoth {g a : GS} (h : Ap g a) (t : Bool) {L : List Hd} {x : Hd} (hx : x.g = 1) (hL : ∀ y, y ∈ L → y = x ∨ y ∈ rowL g P1) : Ap (gput g P1 t L x 8) (gput a P1 t L x 8) := by
  refine ⟨?_, ?_, ?_, ?_, ?_, ?_⟩
  · simp only [gput, eput_same]
  · intro y hy
    simp only [gput]
    by_cases e : (y, (8 : Int)) = (x, 8)
    · rw [e, eput_same, eput_same]
    · rw [eput_other _ _ _ _ e, eput_other _ _ _ _ e]; exact h.i y hy
  · intro y
    simp only [gput]
    by_cases e : (P1, y) = (P1, x)
    · rw [e, eput_same, eput_same]
    · rw [eput_other _ _ _ _ e, eput_other _ _ _ _ e]; exact h.b y
  · intro y hy
    rw [rowL_gput_same] at hy
    rcases hL y hy with rfl | hy
    · exact hx
    · exact h.p1 y hy
  · intro y hy
    rw [rowL_gput_other _ _ _ _ _ _ _ P12] at hy
    exact h.p2 y hy
  · intro p y n hn
    simp only [gput] at hn
    by_cases e : (p, y) = (P1, x)
    · rw [e, eput_same] at hn; cases hn; rfl
    · rw [eput_other _ _ _ _ e] at hn; exact h.n8 p y n hn
/-- g alone takes at the second place. -/
theorem Ap.putOne {g a : GS} (h : Ap g a) (t : Bool) {L : List Hd} {x : Hd} (hx : x.g = 2) (hL : ∀ y, y ∈ L → y = x ∨ y ∈ rowL g P2) : Ap (gput g P2 t L x 8) a := by
  refine ⟨?_, ?_, ?_, ?_, ?_, ?_⟩
  · simp only [gput]; rw [eput_other _ _ _ _ P12.symm]; exact h.r
  · intro y hy
    have e : (y, (8 : Int)) ≠ (x, 8) := fun e => by simp at e; rw [e, hx] at hy; cases hy
    simp only [gput]; rw [eput_other _ _ _ _ e]; exact h.i y hy
  · intro y
    have e : (P1, y) ≠ (P2, x) := fun e => P12 (by simp at e; exact e.1.symm)
    simp only [gput]; rw [eput_other _ _ _ _ e]; exact h.b y
  · intro y hy
    rw [rowL_gput_other _ _ _ _ _ _ _ P12.symm] at hy
    exact h.p1 y hy
  · intro y hy
    rw [rowL_gput_same] at hy
    rcases hL y hy with rfl | hy
    · exact hx
    · exact h.p2 y hy
  · intro p y n hn
    simp only [gput] at hn
    by_cases e : (p, y) = (P2, x)
    · rw [e, eput_same] at hn; cases hn; rfl
    · rw [eput_other _ _ _ _ e] at hn; exact h.n8 p y n hn
theorem Ap.delBoth {g a : GS} (h : Ap g a) (t : Bool) {L : List Hd} {x : Hd} (hL : ∀ y, y ∈ L → y ∈ rowL g P1) : Ap (gdel g P1 t L x 8) (gdel a P1 t L x 8) := by
  refine ⟨?_, ?_, ?_, ?_, ?_, ?_⟩
  · by_cases e : L = [] <;> simp [gdel, e, edel_same, eput_same]
  · intro y hy
    simp only [gdel]
    by_cases e : (y, (8 : Int)) = (x, 8)
    · rw [e, edel_same, edel_same]
    · rw [edel_other _ _ _ e, edel_other _ _ _ e]; exact h.i y hy
  · intro y
    simp only [gdel]
    by_cases e : (P1, y) = (P1, x)
    · rw [e, edel_same, edel_same]
    · rw [edel_other _ _ _ e, edel_other _ _ _ e]; exact h.b y
  · intro y hy
    rw [rowL_gdel_same] at hy
    exact h.p1 y (hL y hy)
  · intro y hy
    rw [rowL_gdel_other _ _ _ _ _ _ _ P12] at hy
    exact h.p2 y hy
  · intro p y n hn
    simp only [gdel] at hn
    by_cases e : (p, y) = (P1, x)
    · rw [e, edel_same] at hn; cases hn
    · rw [edel_other _ _ _ e] at hn; exact h.n8 p y n hn
theorem Ap.delOne {g a : GS} (h : Ap g a) (t : Bool) {L : List Hd} {x : Hd} (hx : x.g = 2) (hL : ∀ y, y ∈ L → y ∈ rowL g P2) : Ap (gdel g P2 t L x 8) a := by
  refine ⟨?_, ?_, ?_, ?_, ?_, ?_⟩
  · rw [R_gdel_other _ _ _ _ _ _ _ P12.symm]; exact h.r
  · intro y hy
    have e : (y, (8 : Int)) ≠ (x, 8) := fun e => by simp at e; rw [e, hx] at hy; cases hy
    simp only [gdel]; rw [edel_other _ _ _ e]; exact h.i y hy
  · intro y
    have e : (P1, y) ≠ (P2, x) := fun e => P12 (by simp at e; exact e.1.symm)
    simp only [gdel]; rw [edel_other _ _ _ e]; exact h.b y
  · intro y hy
    rw [rowL_gdel_other _ _ _ _ _ _ _ P12.symm] at hy
    exact h.p1 y hy
  · intro y hy
    rw [rowL_gdel_same] at hy
    exact h.p2 y (hL y hy)
  · intro p y n hn
    simp only [gdel] at hn
    by_cases e : (p, y) = (P2, x)
    · rw [e, edel_same] at hn; cases hn
    · rw [edel_other _ _ _ e] at hn; exact h.n8 p y n hn

theorem pushList_len (L : List Hd) (x : Hd) (front : Bool) : (pushList L x front).length = L.length + 1 := by cases front <;> simp [pushList]
theorem insAt_len (L : List Hd) (i : Int) (x : Hd) : (insAt L i x).length ≤ L.length + 1 := by simp [insAt]; omega
theorem popList_sub {L : List Hd} {front : Bool} {y : Hd} (h : y ∈ popList L front) : y ∈ L := by
  cases front with
  | true => exact List.mem_of_mem_tail h
  | false => exact (List.dropLast_sublist L).subset h
theorem popList_len (L : List Hd) (front : Bool) : (popList L front).length ≤ L.length := by cases front <;> simp [popList] <;> omega

/-- Both rows are of n handles at most. -/
def Sz (g : GS) (n : Nat) : Prop := (rowL g P1).length ≤ n ∧ (rowL g P2).length ≤ n
theorem Sz.put {g : GS} {n : Nat} (h : Sz g n) (p : Plc) (t : Bool) {L : List Hd} {x : Hd} {m : Int} (hL : L.length ≤ (rowL g p).length + 1) (hp : p = P1 ∨ p = P2) : Sz (gput g p t L x m) (n + 1) := by
  obtain ⟨h1, h2⟩ := h
  rcases hp with rfl | rfl
  · exact ⟨by rw [rowL_gput_same]; omega, by rw [rowL_gput_other _ _ _ _ _ _ _ P12]; omega⟩
  · exact ⟨by rw [rowL_gput_other _ _ _ _ _ _ _ P12.symm]; omega, by rw [rowL_gput_same]; omega⟩
theorem Sz.del {g : GS} {n : Nat} (h : Sz g n) (p : Plc) (t : Bool) {L : List Hd} {x : Hd} {m : Int} (hL : L.length ≤ (rowL g p).length) (hp : p = P1 ∨ p = P2) : Sz (gdel g p t L x m) (n + 1) := by
  obtain ⟨h1, h2⟩ := h
  rcases hp with rfl | rfl
  · exact ⟨by rw [rowL_gdel_same]; omega, by rw [rowL_gdel_other _ _ _ _ _ _ _ P12]; omega⟩
  · exact ⟨by rw [rowL_gdel_other _ _ _ _ _ _ _ P12.symm]; omega, by rw [rowL_gdel_same]; omega⟩
theorem Sz.up {g : GS} {n : Nat} (h : Sz g n) : Sz g (n + 1) := ⟨by have := h.1; omega, by have := h.2; omega⟩

/-! ### The calls -/
theorem Ap.push1 {g a : GS} {n : Nat} (h : Ap g a) (hs : Sz g n) {x : Hd} (hx : x.g = 1) (front : Bool) : Ap (gPush g P1 x 8 front) (gPush a P1 x 8 front) ∧ Sz (gPush g P1 x 8 front) (n + 1) := by
  unfold gPush
  rw [← h.pushErr hx, ← h.row]
  by_cases e : Proofs.Ytimhbnlgambcaaa.pushErr g P1 x 8 = 0
  · rw [if_pos e, if_pos e]
    exact ⟨h.putBoth false hx (fun y hy => mem_pushList.1 hy), hs.put P1 false (by rw [pushList_len]; omega) (.inl rfl)⟩
  · rw [if_neg e, if_neg e]
    exact ⟨h, hs.up⟩
theorem Ap.push2 {g a : GS} {n : Nat} (h : Ap g a) (hs : Sz g n) {x : Hd} (hx : x.g = 2) (front : Bool) : Ap (gPush g P2 x 8 front) a ∧ Sz (gPush g P2 x 8 front) (n + 1) := by
  unfold gPush
  by_cases e : Proofs.Ytimhbnlgambcaaa.pushErr g P2 x 8 = 0
  · rw [if_pos e]
    exact ⟨h.putOne false hx (fun y hy => mem_pushList.1 hy), hs.put P2 false (by rw [pushList_len]; omega) (.inr rfl)⟩
  · rw [if_neg e]
    exact ⟨h, hs.up⟩
theorem Ap.ins1 {g a : GS} {n : Nat} (h : Ap g a) (hs : Sz g n) {x : Hd} (hx : x.g = 1) (i : Int) : Ap (gIns g P1 i x 8) (gIns a P1 i x 8) ∧ Sz (gIns g P1 i x 8) (n + 1) := by
  unfold gIns
  rw [← h.insErr hx, ← h.row]
  by_cases e : gInsErr g P1 i x 8 = 0
  · rw [if_pos e, if_pos e]
    exact ⟨h.putBoth true hx (fun y hy => mem_insAt.1 hy), hs.put P1 true (insAt_len _ _ _) (.inl rfl)⟩
  · rw [if_neg e, if_neg e]
    exact ⟨h, hs.up⟩
theorem Ap.ins2 {g a : GS} {n : Nat} (h : Ap g a) (hs : Sz g n) {x : Hd} (hx : x.g = 2) (i : Int) : Ap (gIns g P2 i x 8) a ∧ Sz (gIns g P2 i x 8) (n + 1) := by
  unfold gIns
  by_cases e : gInsErr g P2 i x 8 = 0
  · rw [if_pos e]
    exact ⟨h.putOne true hx (fun y hy => mem_insAt.1 hy), hs.put P2 true (insAt_len _ _ _) (.inr rfl)⟩
  · rw [if_neg e]
    exact ⟨h, hs.up⟩
theorem gEnd_mem {g : GS} {p : Plc} {front : Bool} {x : Hd} (h : gEnd g p front = some x) : ∃ L, g.R p = some (false, L) ∧ x ∈ L := by
  unfold gEnd at h
  split at h
  · rename_i hl
    unfold isListG at hl
    cases hR : g.R p with
    | none => rw [hR] at hl; cases hl
    | some r =>
      obtain ⟨t, L⟩ := r
      rw [hR] at hl
      cases t with
      | true => cases hl
      | false =>
        refine ⟨L, rfl, ?_⟩
        rw [rowL_some hR] at h
        cases front with
        | true => exact List.mem_of_head? h
        | false => exact List.mem_of_getLast? h
  · cases h
theorem Ap.pop1 {g a : GS} {n : Nat} (h : Ap g a) (hg : GOk g) (hs : Sz g n) (front : Bool) : Ap (gPop g P1 front) (gPop a P1 front) ∧ Sz (gPop g P1 front) (n + 1) := by
  unfold gPop
  rw [← h.gEnd front, ← h.row]
  cases e : Proofs.Ytimhbnlgambcaaa.gEnd g P1 front with
  | none => exact ⟨h, hs.up⟩
  | some x =>
    obtain ⟨L, hR, hx⟩ := gEnd_mem e
    obtain ⟨m, hm⟩ := hg.by2 _ _ _ _ hR hx
    obtain rfl := h.n8 _ _ _ hm
    have hma : a.By (P1, x) = some 8 := (h.b x).symm.trans hm
    simp only [hm, hma, Option.getD_some]
    exact ⟨h.delBoth false (fun y hy => popList_sub hy), hs.del P1 false (popList_len _ _) (.inl rfl)⟩
theorem Ap.pop2 {g a : GS} {n : Nat} (h : Ap g a) (hg : GOk g) (hs : Sz g n) (front : Bool) : Ap (gPop g P2 front) a ∧ Sz (gPop g P2 front) (n + 1) := by
  unfold gPop
  cases e : Proofs.Ytimhbnlgambcaaa.gEnd g P2 front with
  | none => exact ⟨h, hs.up⟩
  | some x =>
    obtain ⟨L, hR, hx⟩ := gEnd_mem e
    obtain ⟨m, hm⟩ := hg.by2 _ _ _ _ hR hx
    obtain rfl := h.n8 _ _ _ hm
    simp only [hm, Option.getD_some]
    exact ⟨h.delOne false (h.p2 x (by rw [rowL_some hR]; exact hx)) (fun y hy => popList_sub hy), hs.del P2 false (popList_len _ _) (.inr rfl)⟩
theorem Ap.rem1 {g a : GS} {n : Nat} (h : Ap g a) (hs : Sz g n) {x : Hd} (hx : x.g = 1) : Ap (gRem g P1 x 8) (gRem a P1 x 8) ∧ Sz (gRem g P1 x 8) (n + 1) := by
  unfold gRem
  rw [← h.i x hx, ← h.row, ← h.tree]
  by_cases e : g.In (x, 8) = some P1
  · rw [if_pos e, if_pos e]
    exact ⟨h.delBoth _ (fun y hy => List.mem_of_mem_erase hy), hs.del P1 _ (List.length_erase_le) (.inl rfl)⟩
  · rw [if_neg e, if_neg e]
    exact ⟨h, hs.up⟩
theorem Ap.rem2 {g a : GS} {n : Nat} (h : Ap g a) (hs : Sz g n) {x : Hd} (hx : x.g = 2) : Ap (gRem g P2 x 8) a ∧ Sz (gRem g P2 x 8) (n + 1) := by
  unfold gRem
  by_cases e : g.In (x, 8) = some P2
  · rw [if_pos e]
    exact ⟨h.delOne _ hx (fun y hy => List.mem_of_mem_erase hy), hs.del P2 _ (List.length_erase_le) (.inr rfl)⟩
  · rw [if_neg e]
    exact ⟨h, hs.up⟩
end Go.Proofs.Ytimhbnlgambcaaa
