/- Trees among nodes, and what stands round a place of one: frames; the words, and hang, which, size. No program. -/
import Derived.Test.YtimhbnlgambcaaaPc
namespace Go.Proofs.Ytimhbnlgambcaaa
open Go.RowKit

def TT.prs : TT → List (Hd × Nat)
  | .leaf => []
  | .node b h _ l r => l.prs ++ (h, b) :: r.prs

theorem TT.ids_prs : ∀ T : TT, T.ids = T.prs.map (·.2)
  | .leaf => rfl
  | .node b h c l r => by simp [TT.ids, TT.prs, TT.ids_prs l, TT.ids_prs r]
theorem TT.ord_prs : ∀ T : TT, T.ord = T.prs.map (·.1)
  | .leaf => rfl
  | .node b h c l r => by simp [TT.ord, TT.prs, TT.ord_prs l, TT.ord_prs r]
theorem TT.cnt_prs : ∀ T : TT, T.cnt = T.prs.length
  | .leaf => rfl
  | .node b h c l r => by simp [TT.cnt, TT.prs, TT.cnt_prs l, TT.cnt_prs r]; omega
theorem TT.ptr_mem : ∀ {T : TT} {b : Nat}, T.ptr = some b → b ∈ T.ids
  | .leaf, _, h => by cases h
  | .node b h c l r, _, e => by cases e; simp [TT.ids]

/-- What stands round a place: a node, the place on its side s, the other subtree. -/
structure Fr where
  b : Nat
  h : Hd
  red : Bool
  s : Bool
  o : TT
abbrev Cx := List Fr

/-- A node with X on side s, Y on the other one. -/
def mk (s : Bool) (b : Nat) (h : Hd) (red : Bool) (X Y : TT) : TT :=
  match s with
  | false => .node b h red X Y
  | true => .node b h red Y X
def plug : Cx → TT → TT
  | [], T => T
  | f :: cx, T => plug cx (mk f.s f.b f.h f.red T f.o)
def upC : Cx → Option Nat
  | [] => .none
  | f :: _ => some f.b
def sideC : Cx → Bool
  | [] => false
  | f :: _ => f.s
def rootC : Cx → Option Nat → Option Nat
  | [], p => p
  | f :: cx, _ => rootC cx (some f.b)
def idsC : Cx → List Nat
  | [] => []
  | f :: cx => f.b :: f.o.ids ++ idsC cx
def preC : Cx → List (Hd × Nat)
  | [] => []
  | f :: cx => preC cx ++ (if f.s then f.o.prs ++ [(f.h, f.b)] else [])
def postC : Cx → List (Hd × Nat)
  | [] => []
  | f :: cx => (if f.s then [] else (f.h, f.b) :: f.o.prs) ++ postC cx

theorem plug_prs : ∀ (cx : Cx) (T : TT), (plug cx T).prs = preC cx ++ T.prs ++ postC cx
  | [], T => by simp [plug, preC, postC]
  | f :: cx, T => by
    rw [plug, plug_prs cx]
    cases hs : f.s <;> simp [mk, preC, postC, hs, TT.prs]
theorem plug_ptr : ∀ (cx : Cx) (T : TT), (plug cx T).ptr = rootC cx T.ptr
  | [], T => rfl
  | f :: cx, T => by
    rw [plug, plug_ptr cx, rootC]
    cases hs : f.s <;> rfl
theorem mk_ids (s : Bool) (b : Nat) (h : Hd) (red : Bool) (X Y : TT) : (mk s b h red X Y).ids.Perm (b :: Y.ids ++ X.ids) := by
  cases s
  · simp only [mk, TT.ids]
    have h1 : (X.ids ++ b :: Y.ids).Perm (b :: (X.ids ++ Y.ids)) := List.perm_middle
    exact h1.trans (List.Perm.cons b List.perm_append_comm)
  · simp only [mk, TT.ids]
    exact List.perm_middle
theorem mk_cnt (s : Bool) (b : Nat) (h : Hd) (red : Bool) (X Y : TT) : (mk s b h red X Y).cnt = X.cnt + Y.cnt + 1 := by
  cases s <;> simp [mk, TT.cnt]
  omega
theorem mk_ptr (s : Bool) (b : Nat) (h : Hd) (red : Bool) (X Y : TT) : (mk s b h red X Y).ptr = some b := by cases s <;> rfl
theorem plug_ids : ∀ (cx : Cx) (T : TT), (plug cx T).ids.Perm (idsC cx ++ T.ids)
  | [], T => by simp [plug, idsC]
  | f :: cx, T => by
    rw [plug]
    refine (plug_ids cx _).trans ?_
    refine (List.Perm.append_left (idsC cx) (mk_ids f.s f.b f.h f.red T f.o)).trans ?_
    simp only [idsC]
    rw [← List.append_assoc]
    exact List.Perm.append_right T.ids List.perm_append_comm

/-- No block stands for two nodes. -/
def ND (cx : Cx) (T : TT) : Prop := (idsC cx ++ T.ids).Nodup
theorem ND_iff (cx : Cx) (T : TT) : ND cx T ↔ (plug cx T).ids.Nodup := (plug_ids cx T).nodup_iff.symm

/-! ### Nodes that lie as they lay -/
theorem Holds.frame {H H' : Hp} : ∀ {up : Option Nat} {T : TT}, Holds H up T → (∀ k ∈ T.ids, H' k = H k) → Holds H' up T
  | _, .leaf, _, _ => trivial
  | _, .node b h c l r, ⟨h1, h2, h3⟩, hk =>
    ⟨(hk b (by simp [TT.ids])).trans h1, Holds.frame h2 (fun k hk' => hk k (by simp [TT.ids, hk'])), Holds.frame h3 (fun k hk' => hk k (by simp [TT.ids, hk']))⟩

theorem Holds.reup {H H' : Hp} {up up' : Option Nat} : ∀ {T : TT}, Holds H up T → T.ids.Nodup → (∀ b, T.ptr = some b → H' b = (H b).map (·.setUp up')) → (∀ k ∈ T.ids, T.ptr ≠ some k → H' k = H k) → Holds H' up' T
  | .leaf, _, _, _, _ => trivial
  | .node b h c l r, ⟨h1, h2, h3⟩, nd, hr, hk => by
    have hb : ∀ k, k ∈ l.ids ∨ k ∈ r.ids → b ≠ k := by
      intro k hk' e
      subst e
      simp only [TT.ids] at nd
      rw [List.nodup_append] at nd
      obtain ⟨_, nd2, nd3⟩ := nd
      rcases hk' with hk' | hk'
      · exact nd3 b hk' b (by simp) rfl
      · exact (List.nodup_cons.1 nd2).1 hk'
    refine ⟨?_, h2.frame (fun k hk' => hk k (by simp [TT.ids, hk']) (by simpa [TT.ptr] using hb k (.inl hk'))), h3.frame (fun k hk' => hk k (by simp [TT.ids, hk']) (by simpa [TT.ptr] using hb k (.inr hk')))⟩
    rw [hr b rfl, h1]
    rfl

theorem Holds.some {H : Hp} {up : Option Nat} : ∀ {T : TT}, Holds H up T → ∀ k ∈ T.ids, (H k).isSome = true
  | .leaf, _, _, hk => by cases hk
  | .node b h c l r, ⟨h1, h2, h3⟩, k, hk => by
    simp only [TT.ids, List.mem_append, List.mem_cons] at hk
    rcases hk with hk | rfl | hk
    · exact Holds.some h2 k hk
    · simp [h1]
    · exact Holds.some h3 k hk
theorem Holds.size {H : Hp} {up : Option Nat} : ∀ {T : TT}, Holds H up T → sizeH H T.ptr = Option.some (T.cnt : Int)
  | .leaf, _ => rfl
  | .node b h c l r, ⟨h1, _, _⟩ => by simp [TT.ptr, sizeH, h1, TT.cnt]
def TT.col : TT → Bool
  | .leaf => false
  | .node _ _ c _ _ => c
theorem Holds.red {H : Hp} {up : Option Nat} : ∀ {T : TT}, Holds H up T → redH H T.ptr = Option.some T.col
  | .leaf, _ => rfl
  | .node b h c l r, ⟨h1, _, _⟩ => by simp [TT.ptr, redH, h1, TT.col]

/-! ### Frames -/
def ndF (f : Fr) (p : Option Nat) (k : Nat) (up : Option Nat) : Nd :=
  ⟨f.h.s, f.h.g, if f.s then f.o.ptr else p, if f.s then p else f.o.ptr, up, ((k + f.o.cnt + 1 : Nat) : Int), f.red⟩
/-- The nodes hold what stands round a place, at which p stands, k from there down. -/
def HoldsC (H : Hp) : Cx → Option Nat → Nat → Prop
  | [], _, _ => True
  | f :: cx, p, k => H f.b = some (ndF f p k (upC cx)) ∧ Holds H (some f.b) f.o ∧ HoldsC H cx (some f.b) (k + f.o.cnt + 1)

theorem HoldsC.frame {H H' : Hp} : ∀ {cx : Cx} {p : Option Nat} {k : Nat}, HoldsC H cx p k → (∀ j ∈ idsC cx, H' j = H j) → HoldsC H' cx p k
  | [], _, _, _, _ => trivial
  | f :: cx, _, _, ⟨h1, h2, h3⟩, hk =>
    ⟨(hk f.b (by simp [idsC])).trans h1, h2.frame (fun j hj => hk j (by simp [idsC, hj])), HoldsC.frame h3 (fun j hj => hk j (by simp [idsC, hj]))⟩
theorem HoldsC.some {H : Hp} : ∀ {cx : Cx} {p : Option Nat} {k : Nat}, HoldsC H cx p k → ∀ j ∈ idsC cx, (H j).isSome = true
  | [], _, _, _, _, hj => by cases hj
  | f :: cx, _, _, ⟨h1, h2, h3⟩, j, hj => by
    simp only [idsC, List.mem_append, List.mem_cons, List.cons_append] at hj
    rcases hj with rfl | hj | hj
    · simp [h1]
    · exact h2.some j hj
    · exact HoldsC.some h3 j hj
theorem ndF_setKid (f : Fr) (p p' : Option Nat) (k : Nat) (up : Option Nat) : (ndF f p k up).setKid f.s p' = ndF f p' k up := by
  cases hs : f.s <;> simp [ndF, Nd.setKid, hs]
theorem HoldsC.rekid {H H' : Hp} {f : Fr} {cx : Cx} {p p' : Option Nat} {k : Nat} (h : HoldsC H (f :: cx) p k) (nd : (idsC (f :: cx)).Nodup) (hb : H' f.b = (H f.b).map (·.setKid f.s p')) (hk : ∀ j ∈ idsC (f :: cx), j ≠ f.b → H' j = H j) : HoldsC H' (f :: cx) p' k := by
  obtain ⟨h1, h2, h3⟩ := h
  simp only [idsC, List.cons_append, List.nodup_cons, List.mem_append, not_or] at nd
  obtain ⟨⟨n1, n2⟩, nd⟩ := nd
  refine ⟨?_, h2.frame (fun j hj => hk j (by simp [idsC, hj]) (fun e => n1 (e ▸ hj))), h3.frame (fun j hj => hk j (by simp [idsC, hj]) (fun e => n2 (e ▸ hj)))⟩
  rw [hb, h1, Option.map_some, ndF_setKid]

/-- A tree's node, from within a frame and from without. -/
theorem holds_mk {H : Hp} {up : Option Nat} {s : Bool} {b : Nat} {h : Hd} {red : Bool} {X Y : TT} :
    Holds H up (mk s b h red X Y) ↔ H b = some (ndF ⟨b, h, red, s, Y⟩ X.ptr X.cnt up) ∧ Holds H (some b) X ∧ Holds H (some b) Y := by
  cases s
  · simp [mk, Holds, ndF]
  · simp only [mk, Holds, ndF, if_true]
    constructor
    · rintro ⟨h1, h2, h3⟩
      exact ⟨by rw [h1]; congr 2; omega, h3, h2⟩
    · rintro ⟨h1, h2, h3⟩
      exact ⟨by rw [h1]; congr 2; omega, h3, h2⟩
theorem holds_plug {H : Hp} : ∀ {cx : Cx} {T : TT}, Holds H .none (plug cx T) ↔ HoldsC H cx T.ptr T.cnt ∧ Holds H (upC cx) T
  | [], T => by simp [plug, HoldsC, upC]
  | f :: cx, T => by
    rw [plug, holds_plug, holds_mk, mk_ptr, mk_cnt]
    simp only [HoldsC, upC]
    constructor
    · rintro ⟨h1, h2, h3, h4⟩; exact ⟨⟨h2, h4, h1⟩, h3⟩
    · rintro ⟨⟨h1, h2, h3⟩, h4⟩; exact ⟨h3, h1, h4, h2⟩

/-! ### which, hang -/
theorem whichZ {H : Hp} {cx : Cx} {x k : Nat} {X : Nd} (hX : H x = some X) (hu : X.up = upC cx) (h : HoldsC H cx (some x) k) (hn : x ∉ idsC cx) : whichH H x = some (sideC cx) := by
  unfold whichH
  rw [hX, Option.bind_some, hu]
  cases cx with
  | nil => rfl
  | cons f cx =>
    obtain ⟨h1, h2, h3⟩ := h
    simp only [upC, sideC, h1, Option.bind_some]
    cases hs : f.s with
    | true => simp [ndF, hs]
    | false =>
      simp only [ndF, hs, Bool.false_eq_true, if_false]
      cases hp : f.o.ptr with
      | none => rfl
      | some c =>
        have hc := TT.ptr_mem hp
        have hcx : c ≠ x := fun e => hn (by subst e; simp [idsC, hc])
        obtain ⟨C, hC⟩ := Option.isSome_iff_exists.1 (h2.some c hc)
        simp [hcx, hC]

/-- What hang leaves of the nodes: y stands where x stood. -/
def hangF (cx : Cx) (H : Hp) (y : Option Nat) : Hp :=
  let H1 := match cx with
    | [] => H
    | f :: _ => upd H f.b (·.setKid f.s y)
  match y with
  | .none => H1
  | some c => upd H1 c (·.setUp (upC cx))

theorem hangZ {H : Hp} {cx : Cx} {x k : Nat} {X : Nd} (hX : H x = some X) (hu : X.up = upC cx) (h : HoldsC H cx (some x) k) (hn : x ∉ idsC cx) (y : Option Nat) (hy : ∀ c, y = some c → (H c).isSome = true) :
    hangH (rootC cx (some x)) H x y = some (rootC cx y, hangF cx H y) := by
  unfold hangH
  rw [hX, Option.bind_some, hu]
  have hw := whichZ hX hu h hn
  cases cx with
  | nil =>
    simp only [upC, Option.bind_some, rootC, hangF]
    cases y with
    | none => rfl
    | some c =>
      obtain ⟨C, hC⟩ := Option.isSome_iff_exists.1 (hy c rfl)
      simp [hC]
  | cons f cx =>
    simp only [upC, hw, sideC, Option.bind_some, rootC, hangF]
    cases y with
    | none => rfl
    | some c =>
      obtain ⟨C, hC⟩ := Option.isSome_iff_exists.1 (hy c rfl)
      simp [hC]

end Go.Proofs.Ytimhbnlgambcaaa
