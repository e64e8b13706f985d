/- fills, told of trees. No program. -/
import Derived.Test.YtimhbnlgambcaaaPf
namespace Go.Proofs.Ytimhbnlgambcaaa
open Go.RowKit

theorem inR (cx : Cx) (s : Bool) (p : Nat) (hp : Hd) (cp : Bool) (T Z : TT) : plug (⟨p, hp, cp, !s, T⟩ :: cx) Z = plug cx (mk s p hp cp T Z) := by simp [plug, mk_flip]
theorem inL (cx : Cx) (s : Bool) (p : Nat) (hp : Hd) (cp : Bool) (T Z : TT) : plug (⟨p, hp, cp, s, T⟩ :: cx) Z = plug cx (mk s p hp cp Z T) := rfl

/-- How many black ones the place above bears with a node of this colour between. -/
def lift (c : Bool) (n : Nat) : Nat := if c then n else n + 1
theorem RB.mkAny {s : Bool} {b : Nat} {h : Hd} {c : Bool} {X Y : TT} {n : Nat} (hX : RB X false n) (hY : RB Y false n) : RB (mk s b h c X Y) c (lift c n) := by
  cases c
  · exact RB.mkBlack hX hY
  · exact RB.mkRed hX hY

theorem prs_cnt {T T' : TT} (h : T'.prs = T.prs) : T'.cnt = T.cnt := by rw [TT.cnt_prs, TT.cnt_prs, h]
theorem prs_nd {T T' : TT} (h : T'.prs = T.prs) (nd : T.ids.Nodup) : T'.ids.Nodup := by rw [TT.ids_prs, h, ← TT.ids_prs]; exact nd

/-- The far one is red: one turn, and all is well. -/
theorem farZ {H : Hp} {cx : Cx} {s : Bool} {p b f : Nat} {hp hb hf : Hd} {cp cb cf : Bool} {T Near F1 F2 : TT} {n : Nat} {cn : Bool}
    (hz : Holds H .none (plug cx (mk s p hp cp T (mk s b hb cb Near (mk s f hf cf F1 F2))))) (nd : (plug cx (mk s p hp cp T (mk s b hb cb Near (mk s f hf cf F1 F2)))).ids.Nodup)
    (small : (plug cx (mk s p hp cp T (mk s b hb cb Near (mk s f hf cf F1 F2)))).cnt < 1099511627776) (hT : RB T false n) (hN : RB Near cn n) (h1 : RB F1 false n) (h2 : RB F2 false n) (hfit : FitC cx (lift cp (n + 1))) (hmay : MayC cx cp) :
    ∃ H' T' N, turnH (rootC cx (some p)) (three H b p f cp) p s = some (T'.ptr, H') ∧ Holds H' .none T' ∧ RB T' false N ∧ T'.prs = (plug cx (mk s p hp cp T (mk s b hb cb Near (mk s f hf cf F1 F2)))).prs := by
  have z1 : Holds (upd H b (·.setRed cp)) .none (plug cx (mk s p hp cp T (mk s b hb cp Near (mk s f hf cf F1 F2)))) := by
    rw [← inR] at hz nd ⊢
    exact recolZ hz nd cp
  have p1 : (plug cx (mk s p hp cp T (mk s b hb cp Near (mk s f hf cf F1 F2)))).prs = (plug cx (mk s p hp cp T (mk s b hb cb Near (mk s f hf cf F1 F2)))).prs := by
    have := recol_prs (⟨p, hp, cp, !s, T⟩ :: cx) s b hb cb cp Near (mk s f hf cf F1 F2)
    simpa only [inR] using this
  have nd1 := prs_nd p1 nd
  have z2 := recolZ z1 nd1 false
  have p2 := (recol_prs cx s p hp cp false T (mk s b hb cp Near (mk s f hf cf F1 F2))).trans p1
  have nd2 := prs_nd p2 nd
  have z3 : Holds (upd (upd (upd H b (·.setRed cp)) p (·.setRed false)) f (·.setRed false)) .none (plug cx (mk s p hp false T (mk s b hb cp Near (mk s f hf false F1 F2)))) := by
    rw [← inR, ← inR] at z2 nd2 ⊢
    exact recolZ z2 nd2 false
  have p3 : (plug cx (mk s p hp false T (mk s b hb cp Near (mk s f hf false F1 F2)))).prs = (plug cx (mk s p hp false T (mk s b hb cp Near (mk s f hf cf F1 F2)))).prs := by
    have := recol_prs (⟨b, hb, cp, !s, Near⟩ :: ⟨p, hp, false, !s, T⟩ :: cx) s f hf cf false F1 F2
    simpa only [inR] using this
  have p4 := p3.trans p2
  have nd3 := prs_nd p4 nd
  obtain ⟨H', ht, hz'⟩ := turnZ z3 nd3 (by rw [prs_cnt p4]; exact small)
  have hrb : RB (mk s b hb cp (mk s p hp false T Near) (mk s f hf false F1 F2)) cp (lift cp (n + 1)) := RB.mkAny (RB.mkBlack hT hN) (RB.mkBlack h1 h2)
  obtain ⟨N, hN'⟩ := plug_rb hrb hfit hmay
  refine ⟨H', _, N, ?_, hz', hN', (turn_prs _ _ _ _ _ _ _ _ _ _ _).trans p4⟩
  rw [plug_ptr, mk_ptr]
  exact ht

theorem node_kids {H : Hp} {cx : Cx} {s : Bool} {b : Nat} {h : Hd} {c : Bool} {X Y : TT} (hz : Holds H .none (plug cx (mk s b h c X Y))) :
    ∃ Bn, H b = some Bn ∧ Bn.kid s = X.ptr ∧ Bn.kid (!s) = Y.ptr ∧ Bn.red = c ∧ Bn.up = upC cx ∧ redH H X.ptr = some X.col ∧ redH H Y.ptr = some Y.col := by
  obtain ⟨_, hT⟩ := holds_plug.1 hz
  obtain ⟨hb, hX, hY⟩ := holds_mk.1 hT
  exact ⟨_, hb, by cases s <;> simp [ndF, Nd.kid], by cases s <;> simp [ndF, Nd.kid], rfl, rfl, hX.red, hY.red⟩

theorem RB.asMk {T : TT} {c : Bool} {n : Nat} (s : Bool) (h : RB T c n) (hc : T.col = true) : ∃ b hh X Y, T = mk s b hh true X Y ∧ RB X false n ∧ RB Y false n := by
  have := h.col
  rw [hc] at this
  subst this
  obtain ⟨b, hh, l, r, rfl, h1, h2⟩ := red_node h
  obtain ⟨X, Y, e, hl⟩ := mk_of s b hh true l r
  rcases hl with ⟨rfl, rfl⟩ | ⟨rfl, rfl⟩
  · exact ⟨b, hh, _, _, e, h1, h2⟩
  · exact ⟨b, hh, _, _, e, h2, h1⟩
theorem RB.asBlack {T : TT} {n : Nat} (s : Bool) (h : RB T false (n + 1)) : ∃ b hh X Y c d, T = mk s b hh false X Y ∧ RB X c n ∧ RB Y d n := by
  cases h with
  | black h1 h2 =>
    rename_i b hh l r c d
    obtain ⟨X, Y, e, hl⟩ := mk_of s b hh false l r
    rcases hl with ⟨rfl, rfl⟩ | ⟨rfl, rfl⟩
    · exact ⟨b, hh, _, _, c, d, e, h1, h2⟩
    · exact ⟨b, hh, _, _, d, c, e, h2, h1⟩

/-- A round of fills, behind its first part: the sibling is black. -/
theorem fills2Z {H : Hp} {cx : Cx} {s : Bool} {p b : Nat} {hp hb : Hd} {cp : Bool} {T Near Far : TT} {n : Nat} {cn cf : Bool}
    (hz : Holds H .none (plug cx (mk s p hp cp T (mk s b hb false Near Far)))) (nd : (plug cx (mk s p hp cp T (mk s b hb false Near Far))).ids.Nodup)
    (small : (plug cx (mk s p hp cp T (mk s b hb false Near Far))).cnt < 1099511627776) (hT : RB T false n) (hN : RB Near cn n) (hF : RB Far cf n) (hfit : FitC cx (lift cp (n + 1))) (hmay : MayC cx cp) :
    (∃ H' T' N, fills2H (rootC cx (some p)) H p s b = some (.inl (T'.ptr, H')) ∧ Holds H' .none T' ∧ RB T' false N ∧ T'.prs = (plug cx (mk s p hp cp T (mk s b hb false Near Far))).prs) ∨
    (cp = false ∧ ∃ H' T', fills2H (rootC cx (some p)) H p s b = some (.inr (H', upC cx, sideC cx)) ∧ Holds H' .none (plug cx T') ∧ RB T' false (n + 1) ∧ T'.ptr = some p ∧ (plug cx T').prs = (plug cx (mk s p hp cp T (mk s b hb false Near Far))).prs) := by
  obtain ⟨Pn, hP, _, _, hPr, hPu, _, _⟩ := node_kids hz
  have hzb := hz
  rw [← inR] at hzb
  obtain ⟨Bn, hB, hBs, hBo, hBr, hBu, hNr, hFr⟩ := node_kids hzb
  have ndm := (nd_frames nd).2.1
  obtain ⟨pT, pB, _, ndB, _⟩ := nd_mk ndm
  obtain ⟨bN, bF, _, _, dNF⟩ := nd_mk ndB
  have bp : b ≠ p := fun e => pB (mem_mk.2 (.inl e.symm))
  have hunf : fills2H (rootC cx (some p)) H p s b = (if Far.col = true then
      (Far.ptr).bind fun f => if b = p ∨ f = b ∨ f = p then .none else (turnH (rootC cx (some p)) (three H b p f cp) p s).bind fun q => some (.inl q)
    else if Near.col = true then
      (Near.ptr).bind fun nn => if nn = b then .none else
      (turnH (rootC cx (some p)) (upd (upd H nn (·.setRed false)) b (·.setRed true)) b (!s)).bind fun q =>
      (q.2 p).bind fun P2 => (P2.kid (!s)).bind fun b2 => (q.2 b2).bind fun B2 => (B2.kid (!s)).bind fun f2 => (q.2 f2).bind fun _ =>
      if b2 = p ∨ f2 = b2 ∨ f2 = p then .none else
      (turnH q.1 (three q.2 b2 p f2 P2.red) p s).bind fun q2 => some (.inl q2)
    else if b = p then .none else
      if cp = true then some (.inl (rootC cx (some p), upd (upd H b (·.setRed true)) p (·.setRed false)))
      else (whichH (upd H b (·.setRed true)) p).bind fun s' => some (.inr (upd H b (·.setRed true), upC cx, s'))) := by
    unfold fills2H
    simp only [hP, hB, Option.bind_some, hBs, hBo, hFr, hNr, hPr, hPu]
  cases hfc : Far.col with
  | true =>
    obtain ⟨f, hf, F1, F2, rfl, h1, h2⟩ := hF.asMk s hfc
    left
    obtain ⟨H', T', N, e1, e2, e3, e4⟩ := farZ hz nd small hT hN h1 h2 hfit hmay
    refine ⟨H', T', N, ?_, e2, e3, e4⟩
    have fb : f ≠ b := fun e => bF (mem_mk.2 (.inl e.symm))
    have fp : f ≠ p := fun e => pB (mem_mk.2 (.inr (.inr (mem_mk.2 (.inl e.symm)))))
    rw [hunf, hfc, if_pos rfl, mk_ptr, Option.bind_some, if_neg (by simp only [not_or]; exact ⟨bp, fb, fp⟩), e1, Option.bind_some]
  | false =>
    have hF' : RB Far false n := by
      have := hF.col
      rw [hfc] at this
      rw [this]
      exact hF
    rw [hfc] at hunf
    simp only [Bool.false_eq_true, if_false] at hunf
    cases hnc : Near.col with
    | true =>
      left
      obtain ⟨nn, hnn, B0, C0, rfl, hB0, hC0⟩ := hN.asMk (!s) hnc
      rw [hnc, if_pos rfl, mk_ptr, Option.bind_some, if_neg (fun e => bN (mem_mk.2 (.inl e.symm)))] at hunf
      -- near black, b red
      have z1 : Holds (upd H nn (·.setRed false)) .none (plug cx (mk s p hp cp T (mk s b hb false (mk (!s) nn hnn false B0 C0) Far))) := by
        rw [← inR, ← inL] at hz nd ⊢
        exact recolZ hz nd false
      have p1 : (plug cx (mk s p hp cp T (mk s b hb false (mk (!s) nn hnn false B0 C0) Far))).prs = (plug cx (mk s p hp cp T (mk s b hb false (mk (!s) nn hnn true B0 C0) Far))).prs := by
        have h := recol_prs (⟨b, hb, false, s, Far⟩ :: ⟨p, hp, cp, !s, T⟩ :: cx) (!s) nn hnn true false B0 C0
        rw [inL, inR, inL, inR] at h
        exact h
      have nd1 := prs_nd p1 nd
      have z2 : Holds (upd (upd H nn (·.setRed false)) b (·.setRed true)) .none (plug cx (mk s p hp cp T (mk s b hb true (mk (!s) nn hnn false B0 C0) Far))) := by
        rw [← inR] at z1 nd1 ⊢
        exact recolZ z1 nd1 true
      have p2 : (plug cx (mk s p hp cp T (mk s b hb true (mk (!s) nn hnn false B0 C0) Far))).prs = (plug cx (mk s p hp cp T (mk s b hb false (mk (!s) nn hnn false B0 C0) Far))).prs := by
        have := recol_prs (⟨p, hp, cp, !s, T⟩ :: cx) s b hb false true (mk (!s) nn hnn false B0 C0) Far
        simpa only [inR] using this
      have p12 := p2.trans p1
      have nd2 := prs_nd p12 nd
      have sm2 : (plug cx (mk s p hp cp T (mk s b hb true (mk (!s) nn hnn false B0 C0) Far))).cnt < 1099511627776 := by rw [prs_cnt p12]; exact small
      have eB : mk s b hb true (mk (!s) nn hnn false B0 C0) Far = mk (!s) b hb true Far (mk (!s) nn hnn false B0 C0) := (mk_flip s b hb true _ _).symm
      rw [eB, ← inR] at z2 nd2 sm2
      obtain ⟨H1, t1, z3⟩ := turnZ z2 nd2 sm2
      have p3 := turn_prs (⟨p, hp, cp, !s, T⟩ :: cx) (!s) b nn hb hnn true false Far B0 C0
      rw [inR, inR] at p3
      rw [inR] at z3
      have eC : mk (!s) nn hnn false (mk (!s) b hb true Far B0) C0 = mk s nn hnn false C0 (mk s b hb true B0 Far) := by rw [mk_flip, mk_flip]
      rw [eC] at z3 p3
      rw [← eB] at p3
      have p123 := p3.trans p12
      have nd3 := prs_nd p123 nd
      have sm3 : (plug cx (mk s p hp cp T (mk s nn hnn false C0 (mk s b hb true B0 Far)))).cnt < 1099511627776 := by rw [prs_cnt p123]; exact small
      obtain ⟨H', T', N, e1, e2, e3, e4⟩ := farZ z3 nd3 sm3 hT hC0 hB0 hF' hfit hmay
      refine ⟨H', T', N, ?_, e2, e3, e4.trans p123⟩
      obtain ⟨P2, hP2, _, hP2o, hP2r, _, _, _⟩ := node_kids z3
      have z3b := z3
      rw [← inR] at z3b
      obtain ⟨N2, hN2, _, hN2o, _, _, _, _⟩ := node_kids z3b
      have z3c := z3b
      rw [← inR] at z3c
      obtain ⟨B2, hB2, _⟩ := node_kids z3c
      rw [mk_ptr] at hP2o hN2o
      have nnp : nn ≠ p := fun e => pB (mem_mk.2 (.inr (.inl (mem_mk.2 (.inl e.symm)))))
      have bnn : b ≠ nn := fun e => bN (mem_mk.2 (.inl e))
      have t1' : turnH (rootC cx (some p)) (upd (upd H nn (·.setRed false)) b (·.setRed true)) b (!s) = some (rootC cx (some p), H1) := t1
      rw [hunf, t1', Option.bind_some]
      simp only [hP2, Option.bind_some, hP2o, hN2, hN2o, hB2, hP2r]
      rw [if_neg (by simp only [not_or]; exact ⟨nnp, bnn, bp⟩), e1, Option.bind_some]
    | false =>
      have hN' : RB Near false n := by
        have := hN.col
        rw [hnc] at this
        rw [this]
        exact hN
      rw [hnc] at hunf
      simp only [Bool.false_eq_true, if_false, if_neg bp] at hunf
      have z1 : Holds (upd H b (·.setRed true)) .none (plug cx (mk s p hp cp T (mk s b hb true Near Far))) := by
        rw [← inR] at hz nd ⊢
        exact recolZ hz nd true
      have p1 : (plug cx (mk s p hp cp T (mk s b hb true Near Far))).prs = (plug cx (mk s p hp cp T (mk s b hb false Near Far))).prs := by
        have := recol_prs (⟨p, hp, cp, !s, T⟩ :: cx) s b hb false true Near Far
        simpa only [inR] using this
      have nd1 := prs_nd p1 nd
      have hrb : RB (mk s p hp false T (mk s b hb true Near Far)) false (n + 1) := RB.mkBlack hT (RB.mkRed hN' hF')
      cases cp with
      | true =>
        left
        simp only [if_true] at hunf
        have z2 := recolZ z1 nd1 false
        have p2 := (recol_prs cx s p hp true false T (mk s b hb true Near Far)).trans p1
        obtain ⟨N, hN3⟩ := plug_rb hrb hfit (fun e => by cases e)
        refine ⟨_, _, N, ?_, z2, hN3, p2⟩
        rw [hunf, plug_ptr, mk_ptr]
      | false =>
        right
        simp only [Bool.false_eq_true, if_false] at hunf
        obtain ⟨hcx1, hT1⟩ := holds_plug.1 z1
        obtain ⟨hp1, _, _⟩ := holds_mk.1 hT1
        rw [mk_ptr] at hcx1
        have hw := whichZ hp1 rfl hcx1 (fun h => (nd_frames nd1).2.2 p h (mem_mk.2 (.inl rfl)))
        refine ⟨rfl, _, _, ?_, z1, hrb, mk_ptr _ _ _ _ _ _, p1⟩
        rw [hunf, hw, Option.bind_some]

/-- One black is wanting at a place: fills puts it in. -/
theorem fillsZ : ∀ (m : Nat) {H : Hp} {cx : Cx} {T : TT} {n k : Nat}, cx.length ≤ m → m < k → Holds H .none (plug cx T) → (plug cx T).ids.Nodup → (plug cx T).cnt < 1099511627776 → RB T false n → FitC cx (n + 1) →
    ∃ H' T' N, fillsH k (rootC cx T.ptr) H (upC cx) (sideC cx) = some (T'.ptr, H') ∧ Holds H' .none T' ∧ RB T' false N ∧ T'.prs = (plug cx T).prs := by
  intro m
  induction m with
  | zero =>
    intro H cx T n k hm hk hz nd small hT hf
    obtain ⟨k, rfl⟩ : ∃ j, k = j + 1 := ⟨k - 1, by omega⟩
    obtain rfl : cx = [] := List.length_eq_zero_iff.1 (by omega)
    exact ⟨H, T, n, rfl, hz, hT, rfl⟩
  | succ m ih =>
    intro H cx T n k hm hk hz nd small hT hf
    obtain ⟨k, rfl⟩ : ∃ j, k = j + 1 := ⟨k - 1, by omega⟩
    cases cx with
    | nil => exact ⟨H, T, n, rfl, hz, hT, rfl⟩
    | cons f cx =>
      obtain ⟨p, hp, cp, s, o⟩ := f
      rw [inL] at hz nd small ⊢
      simp only [rootC, upC, sideC]
      obtain ⟨Pn, hP, _, hPo, _, _, _, hOr⟩ := node_kids hz
      have hoT : ∃ c, RB o c (n + 1) := by
        rcases hf with ⟨_, h, _⟩ | ⟨_, h, _⟩
        · exact ⟨_, h⟩
        · exact h
      obtain ⟨c, hoT⟩ := hoT
      cases hc : o.col with
      | false =>
        have hoF : RB o false (n + 1) := by
          have := hoT.col
          rw [hc] at this
          rw [this]
          exact hoT
        obtain ⟨b, hb, Near, Far, cn, cf, rfl, hN, hF⟩ := hoF.asBlack s
        have hzb := hz
        rw [← inR] at hzb
        obtain ⟨Bn, hB, _, _, hBr, _, _, _⟩ := node_kids hzb
        have hfit : FitC cx (lift cp (n + 1)) := by
          rcases hf with ⟨hr, _, _, h⟩ | ⟨hr, _, h⟩
          · simp only at hr; subst hr; exact h
          · simp only at hr; subst hr; exact h
        have hmay : MayC cx cp := by
          rcases hf with ⟨hr, _, ⟨g, cx', e, hg⟩, _⟩ | ⟨hr, _, _⟩
          · exact fun _ => ⟨g, cx', e, hg⟩
          · simp only at hr; subst hr; exact fun e => by cases e
        have hunf : fillsH (k + 1) (rootC cx (some p)) H (some p) s = (fills2H (rootC cx (some p)) H p s b).bind fun
            | .inl q => some q
            | .inr (H2, p2, s2) => fillsH k (rootC cx (some p)) H2 p2 s2 := by
          conv => lhs; unfold fillsH
          simp only [hP, Option.bind_some, hPo, mk_ptr, hB, hBr, Bool.false_eq_true, if_false]
          rfl
        rcases fills2Z hz nd small hT hN hF hfit hmay with ⟨H', T', N, e1, e2, e3, e4⟩ | ⟨rfl, H', T', e1, e2, e3, e4, e5⟩
        · exact ⟨H', T', N, by rw [hunf, e1, Option.bind_some], e2, e3, e4⟩
        · have nd' := prs_nd e5 nd
          obtain ⟨H2, T2, N, g1, g2, g3, g4⟩ := ih (k := k) (by simpa using hm) (by omega) e2 nd' (by rw [prs_cnt e5]; exact small) e3 hfit
          refine ⟨H2, T2, N, ?_, g2, g3, g4.trans e5⟩
          rw [hunf, e1, Option.bind_some]
          rw [e4] at g1
          exact g1
      | true =>
        obtain ⟨b, hb, Near, Far, rfl, hN, hF⟩ := hoT.asMk s hc
        have hcp : cp = false ∧ FitC cx (n + 1 + 1) := by
          rcases hf with ⟨_, h, _⟩ | ⟨h1, _, h3⟩
          · have := h.col
            rw [hc] at this
            cases this
          · exact ⟨h1, h3⟩
        obtain ⟨rfl, hfit⟩ := hcp
        have hzb := hz
        rw [← inR] at hzb
        obtain ⟨Bn, hB, _, _, hBr, _, _, _⟩ := node_kids hzb
        obtain ⟨pT, pB, _, ndB, _⟩ := nd_mk (nd_frames nd).2.1
        have bp : b ≠ p := fun e => pB (mem_mk.2 (.inl e.symm))
        have z1 : Holds (upd H b (·.setRed false)) .none (plug cx (mk s p hp false T (mk s b hb false Near Far))) := by
          rw [← inR] at hz nd ⊢
          exact recolZ hz nd false
        have p1 : (plug cx (mk s p hp false T (mk s b hb false Near Far))).prs = (plug cx (mk s p hp false T (mk s b hb true Near Far))).prs := by
          have h := recol_prs (⟨p, hp, false, !s, T⟩ :: cx) s b hb true false Near Far
          rw [inR, inR] at h
          exact h
        have nd1 := prs_nd p1 nd
        have z2 := recolZ z1 nd1 true
        have p2 := (recol_prs cx s p hp false true T (mk s b hb false Near Far)).trans p1
        have nd2 := prs_nd p2 nd
        obtain ⟨H1, t1, z3⟩ := turnZ z2 nd2 (by rw [prs_cnt p2]; exact small)
        have p3 := (turn_prs cx s p b hp hb true false T Near Far).trans p2
        have nd3 := prs_nd p3 nd
        have sm3 : (plug cx (mk s b hb false (mk s p hp true T Near) Far)).cnt < 1099511627776 := by rw [prs_cnt p3]; exact small
        obtain ⟨nb, hnb, N1, N2, c1, c2, rfl, hN1, hN2⟩ := hN.asBlack s
        rw [← inL] at z3 nd3 sm3 p3
        obtain ⟨P1, hP1, _, hP1o, _, _, _, _⟩ := node_kids z3
        rw [mk_ptr] at hP1o
        have hunf : fillsH (k + 1) (rootC cx (some p)) H (some p) s = (fills2H (rootC cx (some b)) H1 p s nb).bind fun
            | .inl q => some q
            | .inr (H2, p2, s2) => fillsH k (rootC cx (some b)) H2 p2 s2 := by
          conv => lhs; unfold fillsH
          simp only [hP, Option.bind_some, hPo, mk_ptr, hB, hBr, if_true, if_neg bp, t1, hP1, hP1o]
          rfl
        rcases fills2Z (cx := ⟨b, hb, false, s, Far⟩ :: cx) z3 nd3 sm3 hT hN1 hN2 (.inr ⟨rfl, ⟨false, hF⟩, hfit⟩) (fun _ => ⟨_, _, rfl, rfl⟩) with ⟨H', T', N, e1, e2, e3, e4⟩ | ⟨h, _⟩
        · have e1' : fills2H (rootC cx (some b)) H1 p s nb = some (.inl (T'.ptr, H')) := e1
          exact ⟨H', T', N, by rw [hunf, e1', Option.bind_some], e2, e3, e4.trans p3⟩
        · cases h

end Go.Proofs.Ytimhbnlgambcaaa
