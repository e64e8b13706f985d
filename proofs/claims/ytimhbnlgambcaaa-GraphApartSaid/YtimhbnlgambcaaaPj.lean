/- Remove, told of trees. No program. -/
import Derived.Test.YtimhbnlgambcaaaPi
namespace Go.Proofs.Ytimhbnlgambcaaa
open Go.RowKit

theorem sethZ {H : Hp} {cx : Cx} {s : Bool} {b : Nat} {h h' : Hd} {c : Bool} {X Y : TT} (hz : Holds H .none (plug cx (mk s b h c X Y))) (nd : (plug cx (mk s b h c X Y)).ids.Nodup) :
    Holds (upd H b (·.setH h'.s h'.g)) .none (plug cx (mk s b h' c X Y)) := by
  obtain ⟨hcx, hT⟩ := holds_plug.1 hz
  obtain ⟨hb, hX, hY⟩ := holds_mk.1 hT
  obtain ⟨n1, n2, n3⟩ := nd_frames nd
  obtain ⟨bX, bY, _, _, _⟩ := nd_mk n2
  rw [mk_ptr, mk_cnt] at hcx
  refine holds_plug.2 ⟨?_, holds_mk.2 ⟨?_, ?_, ?_⟩⟩
  · rw [mk_ptr, mk_cnt]
    exact hcx.frame (fun j hj => upd_other _ _ _ _ (fun e => n3 j hj (mem_mk.2 (.inl e))))
  · rw [upd_same, hb]; rfl
  · exact hX.frame (fun j hj => upd_other _ _ _ _ (fun (e : j = b) => bX (e ▸ hj)))
  · exact hY.frame (fun j hj => upd_other _ _ _ _ (fun (e : j = b) => bY (e ▸ hj)))

/-- The least of a tree. -/
theorem lowZ : ∀ (T : TT) {H : Hp} {up : Option Nat} {b k : Nat}, Holds H up T → T.ptr = some b → T.cnt ≤ k → ∃ cx y hy cy ry, T = plug cx (.node y hy cy .leaf ry) ∧ preC cx = [] ∧ lowH k H b = some y := by
  intro T
  induction T with
  | leaf => intro H up b k _ hp; cases hp
  | node b' h c l r ihl _ =>
    intro H up b k hz hp hk
    cases hp
    obtain ⟨hb, hl, hr⟩ := hz
    simp only [TT.cnt] at hk
    obtain ⟨k, rfl⟩ : ∃ j, k = j + 1 := ⟨k - 1, by omega⟩
    cases l with
    | leaf =>
      refine ⟨[], b', h, c, r, rfl, rfl, ?_⟩
      unfold lowH
      rw [hb, Option.bind_some]
      rfl
    | node lb lh lc ll lr =>
      obtain ⟨cx, y, hy, cy, ry, e1, e2, e3⟩ := ihl (k := k) hl rfl (by omega)
      refine ⟨cx ++ [⟨b', h, c, false, r⟩], y, hy, cy, ry, ?_, ?_, ?_⟩
      · rw [plug_append, ← e1]; rfl
      · rw [preC_append, e2]; rfl
      · unfold lowH
        rw [hb, Option.bind_some]
        exact e3

/-- One less, from a place up. -/
theorem lessZ : ∀ (cx : Cx) {H : Hp} {p : Option Nat} {j k : Nat}, cx.length ≤ k → HoldsC H cx p (j + 1) → (idsC cx).Nodup → (∀ (T : TT), T.cnt = j + 1 → (plug cx T).cnt < 1099511627776) →
    ∃ H', lessH k H (upC cx) = some H' ∧ HoldsC H' cx p j ∧ ∀ i, i ∉ idsC cx → H' i = H i
  | [], H, p, j, k, _, _, _, _ => ⟨H, by cases k <;> rfl, trivial, fun _ _ => rfl⟩
  | f :: cx, H, p, j, k, hk, hh, nd, sm => by
    simp only [List.length_cons] at hk
    obtain ⟨k, rfl⟩ : ∃ m, k = m + 1 := ⟨k - 1, by omega⟩
    obtain ⟨hf, hfo, hcx⟩ := hh
    obtain ⟨nf, ndc, _, nfo, nco⟩ := nd_cons nd
    have hT : ∃ T : TT, T.cnt = j + 1 := by
      clear hcx sm hf
      induction j with
      | zero => exact ⟨.node 0 ⟨0, 0⟩ false .leaf .leaf, rfl⟩
      | succ j ih => obtain ⟨T, hT⟩ := ih; exact ⟨.node 0 ⟨0, 0⟩ false T .leaf, by simp [TT.cnt, hT]⟩
    obtain ⟨T0, hT0⟩ := hT
    have hsm : j + 1 + f.o.cnt + 1 < 1099511627776 := by
      have h1 := sm T0 hT0
      have h2 := plug_cnt cx (mk f.s f.b f.h f.red T0 f.o)
      rw [mk_cnt, hT0] at h2
      have h3 : (plug (f :: cx) T0).cnt = (plug cx (mk f.s f.b f.h f.red T0 f.o)).cnt := rfl
      omega
    have hw : wrap64 (((j + 1 + f.o.cnt + 1 : Nat) : Int) - 1) = ((j + f.o.cnt + 1 : Nat) : Int) := by
      rw [wrap_in _ (by omega) (by omega)]; omega
    have e : j + 1 + f.o.cnt + 1 = (j + f.o.cnt + 1) + 1 := by omega
    rw [e] at hcx
    have hcx1 : HoldsC (upd H f.b (·.setN ((j + f.o.cnt + 1 : Nat) : Int))) cx (some f.b) ((j + f.o.cnt + 1) + 1) := hcx.frame (fun i hi => upd_other _ _ _ _ (fun (e : i = f.b) => nf (e ▸ hi)))
    obtain ⟨H', e1, e2, e3⟩ := lessZ cx (k := k) (by omega) hcx1 ndc (fun T hT => by
      have h3 := sm (mk f.s f.b f.h f.red T0 f.o)
      have h1 := sm T0 hT0
      have h4 : (plug (f :: cx) T0).cnt = (plug cx (mk f.s f.b f.h f.red T0 f.o)).cnt := rfl
      rw [h4] at h1
      rw [TT.cnt_prs, plug_prs] at h1 ⊢
      simp only [List.length_append] at h1 ⊢
      rw [← TT.cnt_prs] at h1 ⊢
      rw [mk_cnt, hT0] at h1
      omega)
    refine ⟨H', ?_, ⟨?_, ?_, e2⟩, ?_⟩
    · show lessH (k + 1) H (some f.b) = _
      unfold lessH
      rw [hf, Option.bind_some]
      show lessH k (upd H f.b (·.setN (wrap64 (((j + 1 + f.o.cnt + 1 : Nat) : Int) - 1)))) (upC cx) = _
      rw [hw]
      exact e1
    · rw [e3 _ nf, upd_same, hf]; rfl
    · exact hfo.frame (fun i hi => (e3 i (fun hm => nco i hm hi)).trans (upd_other _ _ _ _ (fun (e : i = f.b) => nfo (e ▸ hi))))
    · intro i hi
      simp only [idsC, List.cons_append, List.mem_cons, List.mem_append, not_or] at hi
      exact (e3 i hi.2.2).trans (upd_other _ _ _ _ hi.1)

/-- A tree in a place of which the node x has gone: C stands there. -/
theorem hangHolds {H : Hp} {cx : Cx} {x : Nat} {C : TT} (hcx : HoldsC H cx (some x) C.cnt) (hC : Holds H (some x) C) (nd : (idsC cx).Nodup) (ndC : C.ids.Nodup) (dis : ∀ j ∈ idsC cx, j ∉ C.ids) : Holds (hangF cx H C.ptr) .none (plug cx C) := by
  refine holds_plug.2 ⟨?_, ?_⟩
  · cases cx with
    | nil => trivial
    | cons f cx =>
      have hCf : C.ptr ≠ some f.b := fun e => dis f.b (by simp [idsC]) (TT.ptr_mem e)
      exact hcx.rekid nd (hangF_up hCf) (fun j hj hn => hangF_other (by simpa [upC] using fun e : f.b = j => hn e.symm) (fun e => dis j hj (TT.ptr_mem e)))
  · refine hC.reup ndC (fun c hc => ?_) (fun j hj hn => hangF_other (fun e => dis j (upC_mem e) hj) hn)
    rw [hc]
    exact hangF_self (fun e => dis c (upC_mem e) (TT.ptr_mem hc))

theorem cutZ {H : Hp} {cx : Cx} {x : Nat} {hx : Hd} {c : Bool} {l r : TT} (hG : Good H (plug cx (.node x hx c l r))) (sm : (plug cx (.node x hx c l r)).cnt < 1099511627776) (h1 : l = .leaf ∨ r = .leaf) (k : Nat) (hk : (plug cx (.node x hx c l r)).cnt < k) :
    ∃ H' T', cutH k (rootC cx (some x)) H x = some (T'.ptr, H') ∧ Good H' T' ∧ T'.prs = preC cx ++ (l.prs ++ r.prs) ++ postC cx := by
  obtain ⟨hz, nd, N, hN⟩ := hG
  obtain ⟨hcx, hX, hl, hr⟩ := holds_plug.1 hz
  obtain ⟨n1, n2, n3⟩ := nd_frames nd
  have hxc : x ∉ idsC cx := fun hm => n3 x hm (by simp [TT.ids])
  have hxlr : x ∉ l.ids ∧ x ∉ r.ids := by
    simp only [TT.ids, List.nodup_append, List.nodup_cons] at n2
    exact ⟨fun hm => n2.2.2 x hm x (by simp) rfl, n2.2.1.1⟩
  have hlen : cx.length ≤ k := by have := length_cx cx (.node x hx c l r); omega
  obtain ⟨c0, n0, rb0, hfit, hmay⟩ := rb_plug hN
  have hc0 : c0 = c := rb0.col.symm
  subst hc0
  -- the child
  obtain ⟨C, hCdef⟩ : ∃ C : TT, C = (match l with | .leaf => r | l => l) := ⟨_, rfl⟩
  have hCl : (l = .leaf ∧ C = r) ∨ (r = .leaf ∧ C = l) := by
    rcases h1 with e | e
    · subst e; exact .inl ⟨rfl, hCdef⟩
    · subst e
      cases l with
      | leaf => exact .inl ⟨rfl, hCdef⟩
      | node => exact .inr ⟨rfl, hCdef⟩
  clear hCdef
  have hCprs : C.prs = l.prs ++ r.prs := by rcases hCl with ⟨rfl, rfl⟩ | ⟨rfl, rfl⟩ <;> simp [TT.prs]
  have hCcnt : l.cnt + r.cnt + 1 = C.cnt + 1 := by rcases hCl with ⟨rfl, rfl⟩ | ⟨rfl, rfl⟩ <;> simp [TT.cnt]
  have hChold : Holds H (some x) C := by rcases hCl with ⟨rfl, rfl⟩ | ⟨rfl, rfl⟩ <;> assumption
  have hCids : ∀ j ∈ C.ids, j ∈ (TT.node x hx c0 l r).ids := by
    intro j hj
    rcases hCl with ⟨rfl, rfl⟩ | ⟨rfl, rfl⟩ <;> simp [TT.ids, hj]
  have hxC : x ∉ C.ids := by
    rcases hCl with ⟨rfl, rfl⟩ | ⟨rfl, rfl⟩
    · exact hxlr.2
    · exact hxlr.1
  have hCptr : (match l.ptr with | .none => r.ptr | some q => some q) = C.ptr := by
    rcases hCl with ⟨rfl, rfl⟩ | ⟨rfl, rfl⟩
    · rfl
    · cases C <;> rfl
  have ndC : C.ids.Nodup := by
    simp only [TT.ids, List.nodup_append, List.nodup_cons] at n2
    rcases hCl with ⟨rfl, rfl⟩ | ⟨rfl, rfl⟩
    · exact n2.2.1.2
    · exact n2.1
  have dis : ∀ j ∈ idsC cx, j ∉ C.ids := fun j hj hm => n3 j hj (hCids j hm)
  have hcx' : HoldsC H cx (some x) (C.cnt + 1) := by
    have : (TT.node x hx c0 l r).cnt = C.cnt + 1 := hCcnt
    rw [this] at hcx
    exact hcx
  obtain ⟨H1, e1, e2, e3⟩ := lessZ cx (k := k) hlen hcx' n1 (fun T hT => by
    rw [TT.cnt_prs, plug_prs] at sm ⊢
    simp only [List.length_append] at sm ⊢
    rw [← TT.cnt_prs] at sm ⊢
    have : (TT.node x hx c0 l r).cnt = C.cnt + 1 := hCcnt
    omega)
  have hX1 := (e3 x hxc).trans hX
  have hC1 : Holds H1 (some x) C := hChold.frame (fun j hj => e3 j (fun hm => dis j hm hj))
  have hw := whichZ hX1 rfl e2 hxc
  have hhang := hangZ hX1 rfl e2 hxc C.ptr (fun q hq => hC1.some q (TT.ptr_mem hq))
  have hz2 := hangHolds e2 hC1 n1 ndC dis
  have hx2 : hangF cx H1 C.ptr x = some ⟨hx.s, hx.g, l.ptr, r.ptr, upC cx, ((l.cnt + r.cnt + 1 : Nat) : Int), c0⟩ := by
    rw [hangF_other (fun e => hxc (upC_mem e)) (fun e => hxC (TT.ptr_mem e)), hX1]
  have hprs2 : (plug cx C).prs = preC cx ++ (l.prs ++ r.prs) ++ postC cx := by rw [plug_prs, hCprs]
  have nd2 : (plug cx C).ids.Nodup := by
    rw [← ND_iff]
    unfold ND
    rw [List.nodup_append]
    exact ⟨n1, ndC, fun a ha y hy e => dis a ha (e ▸ hy)⟩
  have hunf : cutH k (rootC cx (some x)) H x = (match C.ptr with
      | some c => (hangF cx H1 C.ptr c).bind fun _ => some (rootC cx C.ptr, upd (hangF cx H1 C.ptr) c (·.setRed false))
      | .none => if c0 = false then (match upC cx with
          | .none => some (rootC cx C.ptr, hangF cx H1 C.ptr)
          | some _ => fillsH k (rootC cx C.ptr) (hangF cx H1 C.ptr) (upC cx) (sideC cx))
        else some (rootC cx C.ptr, hangF cx H1 C.ptr)) := by
    unfold cutH
    rw [hX, Option.bind_some]
    show (lessH k H (upC cx)).bind _ = _
    rw [e1, Option.bind_some, hX1, Option.bind_some, hw, Option.bind_some]
    show (hangH (rootC cx (some x)) H1 x (match l.ptr with | .none => r.ptr | some q => some q)).bind (fun q => match (match l.ptr with | .none => r.ptr | some q => some q) with
      | some c => (q.2 c).bind fun _ => some (q.1, upd q.2 c (·.setRed false))
      | .none => (q.2 x).bind fun X2 => if X2.red = false then (match upC cx with
          | .none => some q
          | some _ => fillsH k q.1 q.2 (upC cx) (sideC cx)) else some q) = _
    rw [hCptr, hhang, Option.bind_some]
    cases hcp : C.ptr with
    | some c => rfl
    | none =>
      rw [hcp] at hx2
      simp only [hx2, Option.bind_some]
  rw [hunf]
  cases hC : C with
  | leaf =>
    rw [hC] at hz2 nd2 hprs2
    have hlr : RB l false 0 ∧ RB r false 0 := by
      rcases hCl with ⟨rfl, h⟩ | ⟨rfl, h⟩
      · rw [hC] at h; subst h; exact ⟨.leaf, .leaf⟩
      · rw [hC] at h; subst h; exact ⟨.leaf, .leaf⟩
    cases c0 with
    | true =>
      have hn0 : n0 = 0 := by
        cases rb0 with
        | red q1 q2 =>
          rcases hCl with ⟨rfl, _⟩ | ⟨rfl, _⟩
          · cases q1; rfl
          · cases q2; rfl
      subst hn0
      obtain ⟨N', hN'⟩ := plug_rb (T := .leaf) .leaf hfit (fun e => by cases e)
      refine ⟨hangF cx H1 .none, plug cx .leaf, ?_, ⟨hz2, nd2, N', hN'⟩, hprs2⟩
      rw [plug_ptr]
      rfl
    | false =>
      have hn0 : n0 = 1 := by
        cases rb0 with
        | black q1 q2 =>
          rcases hCl with ⟨rfl, _⟩ | ⟨rfl, _⟩
          · cases q1; rfl
          · cases q2; rfl
      subst hn0
      cases cx with
      | nil =>
        refine ⟨H1, .leaf, rfl, ⟨trivial, by simp [TT.ids], 0, .leaf⟩, hprs2⟩
      | cons f cx =>
        have hcnt2 : (plug (f :: cx) .leaf).cnt < (plug (f :: cx) (.node x hx false l r)).cnt := by
          rw [TT.cnt_prs, TT.cnt_prs, plug_prs, plug_prs]
          simp only [List.length_append]
          rw [← TT.cnt_prs, ← TT.cnt_prs]
          simp only [TT.cnt]
          omega
        obtain ⟨H', T', N', g1, g2, g3, g4⟩ := fillsZ (f :: cx).length (k := k) (Nat.le_refl _) (by
          have := length_cx (f :: cx) .leaf
          omega) hz2 nd2 (by omega) .leaf hfit
        exact ⟨H', T', g1, ⟨g2, prs_nd g4 nd2, N', g3⟩, g4.trans hprs2⟩
  | node cb ch cc cl cr =>
    rw [hC] at hz2 nd2 hprs2
    obtain ⟨Cn, hCn⟩ := Option.isSome_iff_exists.1 (hz2.some cb ((plug_ids _ _).mem_iff.2 (by simp [TT.ids])))
    have hCn' : hangF cx H1 (some cb) cb = some Cn := hCn
    -- x is black, its child red
    have hrbC : ∃ d, RB C d 0 ∧ c0 = false ∧ n0 = 1 := by
      cases rb0 with
      | red q1 q2 =>
        exfalso
        rcases hCl with ⟨rfl, rfl⟩ | ⟨rfl, rfl⟩
        · cases q1; rw [hC] at q2; cases q2
        · cases q2; rw [hC] at q1; cases q1
      | black q1 q2 =>
        rcases hCl with ⟨rfl, rfl⟩ | ⟨rfl, rfl⟩
        · cases q1; exact ⟨_, q2, rfl, rfl⟩
        · cases q2; exact ⟨_, q1, rfl, rfl⟩
    obtain ⟨d, hrbC, rfl, rfl⟩ := hrbC
    rw [hC] at hrbC
    cases hrbC with
    | red q1 q2 =>
      have z3 := recolZ (cx := cx) (s := false) (b := cb) (h := ch) (c := true) (X := cl) (Y := cr) hz2 nd2 false
      have p3 := recol_prs cx false cb ch true false cl cr
      obtain ⟨N', hN'⟩ := plug_rb (T := mk false cb ch false cl cr) (RB.mkBlack q1 q2) hfit (fun e => by cases e)
      refine ⟨_, _, ?_, ⟨z3, prs_nd p3 nd2, N', hN'⟩, p3.trans hprs2⟩
      show (hangF cx H1 (some cb) cb).bind (fun _ => some (rootC cx (some cb), upd (hangF cx H1 (some cb)) cb (·.setRed false))) = _
      rw [hCn', Option.bind_some, plug_ptr]
      rfl

theorem TT.cnt_ids (T : TT) : T.cnt = T.ids.length := by rw [TT.cnt_prs, TT.ids_prs, List.length_map]
theorem leaf_ptr {T : TT} (h : T ≠ .leaf) : ∃ b, T.ptr = some b := by
  cases T with
  | leaf => exact absurd rfl h
  | node b => exact ⟨b, rfl⟩

theorem removeZ {H : Hp} {cx : Cx} {b : Nat} {h : Hd} {c : Bool} {l r : TT} (hG : Good H (plug cx (.node b h c l r))) (sm : (plug cx (.node b h c l r)).cnt < 1099511627776) (k : Nat) (hk : (plug cx (.node b h c l r)).cnt < k) :
    ∃ H1 x sw H' T', swapH k H b = some (H1, x, sw) ∧ cutH k (plug cx (.node b h c l r)).ptr H1 x = some (T'.ptr, H') ∧ Good H' T' ∧
      ((sw = .none ∧ T'.prs = preC cx ++ (l.prs ++ r.prs) ++ postC cx) ∨
       ∃ (h' : Hd) (y : Nat) (rest : List (Hd × Nat)), sw = some (h'.s, h'.g) ∧ r.prs = (h', y) :: rest ∧ T'.prs = preC cx ++ (l.prs ++ (h', b) :: rest) ++ postC cx) := by
  obtain ⟨hcx, hX, hl, hr⟩ := holds_plug.1 hG.holds
  have hptr : (plug cx (.node b h c l r)).ptr = rootC cx (some b) := plug_ptr cx _
  have one : (l = .leaf ∨ r = .leaf) → swapH k H b = some (H, b, .none) := by
    intro h1
    unfold swapH
    rw [hX, Option.bind_some]
    rcases h1 with rfl | rfl
    · rfl
    · show (match l.ptr, TT.leaf.ptr with
        | some _, some r => (lowH k H r).bind fun y => (H y).bind fun Y => if y = b then .none else some (upd (upd H b (·.setH Y.s Y.g)) y (·.setH h.s h.g), y, some (Y.s, Y.g))
        | _, _ => some (H, b, .none)) = _
      cases l <;> rfl
  by_cases h1 : l = .leaf ∨ r = .leaf
  · obtain ⟨H', T', e1, e2, e3⟩ := cutZ hG sm h1 k hk
    exact ⟨H, b, .none, H', T', one h1, by rw [hptr]; exact e1, e2, .inl ⟨rfl, e3⟩⟩
  · simp only [not_or] at h1
    obtain ⟨hln, hrn⟩ := h1
    obtain ⟨lp, hlp⟩ := leaf_ptr hln
    obtain ⟨rp, hrp⟩ := leaf_ptr hrn
    have hrk : r.cnt ≤ k := by
      have := plug_cnt cx (.node b h c l r)
      simp only [TT.cnt] at this
      omega
    obtain ⟨cr, y, hy, cy, ry, re, rpre, hlow⟩ := lowZ r hr hrp hrk
    -- the two nodes' places
    have etree : plug cx (.node b h c l r) = plug (cr ++ ⟨b, h, c, true, l⟩ :: cx) (.node y hy cy .leaf ry) := by
      rw [plug_append, ← re]; rfl
    have hz := hG.holds
    have nd := hG.nd
    have hyr : y ∈ r.ids := by rw [re]; exact (plug_ids _ _).mem_iff.2 (by simp [TT.ids])
    have hyb : y ≠ b := by
      intro e
      have n2 := (nd_frames nd).2.1
      simp only [TT.ids, List.nodup_append, List.nodup_cons] at n2
      exact n2.2.1.1 (e ▸ hyr)
    obtain ⟨Yn, hYn⟩ : ∃ Yn, H y = some Yn ∧ Yn.s = hy.s ∧ Yn.g = hy.g := by
      have hz' := hz
      rw [etree] at hz'
      obtain ⟨_, hY, _, _⟩ := holds_plug.1 hz'
      exact ⟨_, hY, rfl, rfl⟩
    obtain ⟨hY, hYs, hYg⟩ := hYn
    have hsw : swapH k H b = some (upd (upd H b (·.setH hy.s hy.g)) y (·.setH h.s h.g), y, some (hy.s, hy.g)) := by
      unfold swapH
      rw [hX, Option.bind_some]
      show (match l.ptr, r.ptr with
        | some _, some r => (lowH k H r).bind fun y => (H y).bind fun Y => if y = b then .none else some (upd (upd H b (·.setH Y.s Y.g)) y (·.setH h.s h.g), y, some (Y.s, Y.g))
        | _, _ => some (H, b, .none)) = _
      rw [hlp, hrp]
      show ((lowH k H rp).bind fun y => (H y).bind fun Y => if y = b then .none else some (upd (upd H b (·.setH Y.s Y.g)) y (·.setH h.s h.g), y, some (Y.s, Y.g))) = _
      rw [hlow, Option.bind_some, hY, Option.bind_some, if_neg hyb, hYs, hYg]
    have z1 : Holds (upd H b (·.setH hy.s hy.g)) .none (plug cx (.node b hy c l r)) := sethZ (s := false) hz nd
    have i1 : (plug cx (.node b hy c l r)).ids = (plug cx (.node b h c l r)).ids := by
      rw [TT.ids_prs, TT.ids_prs, plug_prs, plug_prs]
      simp [TT.prs]
    have etree1 : plug cx (.node b hy c l r) = plug (cr ++ ⟨b, hy, c, true, l⟩ :: cx) (.node y hy cy .leaf ry) := by
      rw [plug_append, ← re]; rfl
    have nd1 : (plug cx (.node b hy c l r)).ids.Nodup := by rw [i1]; exact nd
    rw [etree1] at z1 nd1
    have z2 : Holds (upd (upd H b (·.setH hy.s hy.g)) y (·.setH h.s h.g)) .none (plug (cr ++ ⟨b, hy, c, true, l⟩ :: cx) (.node y h cy .leaf ry)) := sethZ (s := false) z1 nd1
    have i2 : (plug (cr ++ ⟨b, hy, c, true, l⟩ :: cx) (.node y h cy .leaf ry)).ids = (plug (cr ++ ⟨b, hy, c, true, l⟩ :: cx) (.node y hy cy .leaf ry)).ids := by
      rw [TT.ids_prs, TT.ids_prs, plug_prs, plug_prs]
      simp [TT.prs]
    have nd2 : (plug (cr ++ ⟨b, hy, c, true, l⟩ :: cx) (.node y h cy .leaf ry)).ids.Nodup := by rw [i2]; exact nd1
    have rb2 : ∃ N, RB (plug (cr ++ ⟨b, hy, c, true, l⟩ :: cx) (.node y h cy .leaf ry)) false N := by
      obtain ⟨N, hN⟩ := hG.rb
      -- colours do not hang on handles
      obtain ⟨d, m, t1, t2, t3⟩ := rb_plug hN
      have t1' : RB (.node b hy c l r) d m := by
        cases t1 with
        | red q1 q2 => exact .red q1 q2
        | black q1 q2 => exact .black q1 q2
      obtain ⟨N', hN'⟩ := plug_rb t1' t2 t3
      rw [etree1] at hN'
      obtain ⟨d2, m2, u1, u2, u3⟩ := rb_plug hN'
      have u1' : RB (.node y h cy .leaf ry) d2 m2 := by
        cases u1 with
        | red q1 q2 => exact .red q1 q2
        | black q1 q2 => exact .black q1 q2
      exact plug_rb u1' u2 u3
    have hcnt : (plug (cr ++ ⟨b, hy, c, true, l⟩ :: cx) (.node y h cy .leaf ry)).cnt = (plug cx (.node b h c l r)).cnt := by
      rw [TT.cnt_ids, TT.cnt_ids, i2, ← etree1, i1]
    obtain ⟨H', T', e1, e2, e3⟩ := cutZ ⟨z2, nd2, rb2⟩ (by rw [hcnt]; exact sm) (.inl rfl) k (by rw [hcnt]; exact hk)
    refine ⟨_, y, _, H', T', hsw, ?_, e2, .inr ⟨hy, y, ry.prs ++ postC cr, rfl, ?_, ?_⟩⟩
    · rw [hptr]
      have : rootC (cr ++ ⟨b, hy, c, true, l⟩ :: cx) (some y) = rootC cx (some b) := by
        have q1 := plug_ptr (cr ++ ⟨b, hy, c, true, l⟩ :: cx) (.node y hy cy .leaf ry)
        rw [← etree1, plug_ptr] at q1
        exact q1.symm
      rw [this] at e1
      exact e1
    · rw [re, plug_prs, rpre]
      simp [TT.prs]
    · rw [e3, preC_append, postC_append, rpre]
      simp [TT.prs, preC, postC]

end Go.Proofs.Ytimhbnlgambcaaa
