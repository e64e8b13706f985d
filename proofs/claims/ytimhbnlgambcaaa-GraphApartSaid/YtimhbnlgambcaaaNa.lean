/- A list's links as plain data: a chain of them, and what pushing and removing make of it. No program. -/
import Derived.Test.YtimhbnlgambcaaaPc
namespace Go.Proofs.Ytimhbnlgambcaaa

structure Lk where
  s : Int
  g : Int
  bk : Option Nat
  fr : Option Nat

/-- The links that are there, by their blocks. -/
abbrev LHp := Nat → Option Lk

def updL (H : LHp) (b : Nat) (f : Lk → Lk) : LHp := fun k => if k = b then (H k).map f else H k
def addL (H : LHp) (b : Nat) (x : Lk) : LHp := fun k => if k = b then some x else H k
def delL (H : LHp) (b : Nat) : LHp := fun k => if k = b then .none else H k
theorem updL_same (H : LHp) (b : Nat) (f : Lk → Lk) : updL H b f b = (H b).map f := by simp [updL]
theorem updL_other (H : LHp) (b k : Nat) (f : Lk → Lk) (h : k ≠ b) : updL H b f k = H k := by simp [updL, h]
theorem updL_dom (H : LHp) (b k : Nat) (f : Lk → Lk) : (updL H b f k).isSome = (H k).isSome := by
  unfold updL; split <;> simp
def Lk.setBk (x : Lk) (p : Option Nat) : Lk := { x with bk := p }
def Lk.setFr (x : Lk) (p : Option Nat) : Lk := { x with fr := p }

abbrev LL := List (Hd × Nat)
def hdL : LL → Option Nat → Option Nat
  | [], q => q
  | x :: _, _ => some x.2
def lsL : LL → Option Nat → Option Nat
  | [], p => p
  | x :: r, _ => lsL r (some x.2)
def blsL (l : LL) : List Nat := l.map (·.2)
def hsL (l : LL) : List Hd := l.map (·.1)

/-- A chain of links: the one ahead of it is p, the one behind it q. -/
def Chain (H : LHp) : Option Nat → LL → Option Nat → Prop
  | _, [], _ => True
  | p, x :: r, q => H x.2 = some ⟨x.1.s, x.1.g, hdL r q, p⟩ ∧ Chain H (some x.2) r q

theorem hdL_append : ∀ (x y : LL) (q : Option Nat), hdL (x ++ y) q = hdL x (hdL y q)
  | [], _, _ => rfl
  | _ :: _, _, _ => rfl
theorem lsL_append : ∀ (x y : LL) (p : Option Nat), lsL (x ++ y) p = lsL y (lsL x p)
  | [], _, _ => rfl
  | a :: x, y, _p => lsL_append x y (some a.2)
theorem chain_append {H : LHp} : ∀ (x y : LL) (p q : Option Nat), Chain H p (x ++ y) q ↔ Chain H p x (hdL y q) ∧ Chain H (lsL x p) y q
  | [], y, p, q => by simp [Chain, lsL]
  | a :: x, y, p, q => by
    simp only [List.cons_append, Chain, hdL_append, lsL]
    rw [chain_append x y (some a.2) q]
    exact and_assoc.symm
theorem chain_congr {H H' : LHp} : ∀ {l : LL} {p q : Option Nat}, (∀ b ∈ blsL l, H' b = H b) → Chain H p l q → Chain H' p l q
  | [], _, _, _, _ => trivial
  | x :: l, p, q, h, ⟨h1, h2⟩ => ⟨(h x.2 (by simp [blsL])).trans h1, chain_congr (fun b hb => h b (by simp only [blsL, List.map_cons, List.mem_cons]; exact .inr hb)) h2⟩
theorem chain_some {H : LHp} : ∀ {l : LL} {p q : Option Nat}, Chain H p l q → ∀ b ∈ blsL l, (H b).isSome = true
  | x :: l, p, q, ⟨h1, h2⟩, b, hb => by
    simp only [blsL, List.map_cons, List.mem_cons] at hb
    rcases hb with rfl | hb
    · rw [h1]; rfl
    · exact chain_some h2 b hb
theorem chain_setHead {H : LHp} {x : Hd × Nat} {r : LL} {p p' q : Option Nat} (h : Chain H p (x :: r) q) (hn : x.2 ∉ blsL r) : Chain (updL H x.2 (·.setFr p')) p' (x :: r) q := by
  obtain ⟨h1, h2⟩ := h
  refine ⟨by rw [updL_same, h1]; rfl, chain_congr (fun b hb => updL_other _ _ _ _ (fun e => hn (e ▸ hb))) h2⟩
theorem chain_setLast {H : LHp} {x : Hd × Nat} {r : LL} {p q q' : Option Nat} (h : Chain H p (r ++ [x]) q) (hn : x.2 ∉ blsL r) : Chain (updL H x.2 (·.setBk q')) p (r ++ [x]) q' := by
  rw [chain_append] at h ⊢
  obtain ⟨h1, h2, _⟩ := h
  exact ⟨chain_congr (fun b hb => updL_other _ _ _ _ (fun e => hn (e ▸ hb))) h1, by rw [updL_same, h2]; rfl, trivial⟩

theorem chain_front {H : LHp} {h : Hd} {x f : Nat} {h0 : Hd} {r : LL} (hc : Chain H .none ((h0, f) :: r) .none) (hn : (blsL ((h0, f) :: r)).Nodup) (hx : x ∉ blsL ((h0, f) :: r)) :
    Chain (updL (addL H x ⟨h.s, h.g, some f, .none⟩) f (·.setFr (some x))) .none ((h, x) :: (h0, f) :: r) .none := by
  have hxf : x ≠ f := fun e => hx (by simp [blsL, e])
  have h1 : Chain (addL H x ⟨h.s, h.g, some f, .none⟩) .none ((h0, f) :: r) .none := chain_congr (fun b hb => by simp [addL]; intro e; exact absurd hb (e ▸ hx)) hc
  have hf : f ∉ blsL r := by simpa [blsL] using (List.nodup_cons.1 hn).1
  refine ⟨by rw [updL_other _ _ _ _ hxf]; simp [addL, hdL], chain_setHead (x := (h0, f)) h1 hf⟩
theorem chain_back {H : LHp} {h : Hd} {x c : Nat} {h0 : Hd} {r : LL} (hc : Chain H .none (r ++ [(h0, c)]) .none) (hn : (blsL (r ++ [(h0, c)])).Nodup) (hx : x ∉ blsL (r ++ [(h0, c)])) :
    Chain (updL (addL H x ⟨h.s, h.g, .none, some c⟩) c (·.setBk (some x))) .none (r ++ [(h0, c)] ++ [(h, x)]) .none := by
  have hxc : x ≠ c := fun e => hx (by simp [blsL, e])
  have h1 : Chain (addL H x ⟨h.s, h.g, .none, some c⟩) .none (r ++ [(h0, c)]) .none := chain_congr (fun b hb => by simp [addL]; intro e; exact absurd hb (e ▸ hx)) hc
  have hf : c ∉ blsL r := by
    simp only [blsL, List.map_append, List.map_cons, List.map_nil] at hn ⊢
    rw [List.nodup_append] at hn
    intro hm
    exact hn.2.2 c hm c (by simp) rfl
  rw [chain_append]
  refine ⟨chain_setLast (x := (h0, c)) h1 hf, ?_, trivial⟩
  rw [updL_other _ _ _ _ hxc]
  simp [addL, hdL, lsL_append, lsL]

theorem nodup_mid {pre post : LL} {x : Hd × Nat} (hn : (blsL (pre ++ x :: post)).Nodup) : x.2 ∉ blsL pre ∧ x.2 ∉ blsL post ∧ (blsL (pre ++ post)).Nodup ∧ ∀ b ∈ blsL pre, b ∉ blsL post := by
  simp only [blsL, List.map_append, List.map_cons] at hn ⊢
  rw [List.nodup_append] at hn ⊢
  obtain ⟨h1, h2, h3⟩ := hn
  obtain ⟨h4, h5⟩ := List.nodup_cons.1 h2
  exact ⟨fun hm => h3 _ hm _ (by simp) rfl, h4, ⟨h1, h5, fun a ha b hb => h3 a ha b (by simp [hb])⟩, fun b hb hb' => h3 b hb b (by simp [hb']) rfl⟩

/-- Behind a removal in the middle of a chain. -/
theorem chain_cut {H H' : LHp} {pre post : LL} {x : Hd × Nat} (_hc : Chain H .none (pre ++ x :: post) .none) (hn : (blsL (pre ++ x :: post)).Nodup)
    (h1 : Chain H' .none pre (hdL post .none)) (h2 : Chain H' (lsL pre .none) post .none) : Chain (delL H' x.2) .none (pre ++ post) .none := by
  obtain ⟨n1, n2, _, _⟩ := nodup_mid hn
  rw [chain_append]
  exact ⟨chain_congr (fun b hb => by simp [delL]; intro e; exact absurd hb (e ▸ n1)) h1, chain_congr (fun b hb => by simp [delL]; intro e; exact absurd hb (e ▸ n2)) h2⟩
theorem chain_parts {H : LHp} {pre post : LL} {x : Hd × Nat} (hc : Chain H .none (pre ++ x :: post) .none) : Chain H .none pre (some x.2) ∧ H x.2 = some ⟨x.1.s, x.1.g, hdL post .none, lsL pre .none⟩ ∧ Chain H (some x.2) post .none := by
  rw [chain_append] at hc
  exact ⟨hc.1, hc.2.1, hc.2.2⟩
end Go.Proofs.Ytimhbnlgambcaaa
