/- Red and black: what fits where; settles, told of trees. No program. -/
import Derived.Test.YtimhbnlgambcaaaPe
namespace Go.Proofs.Ytimhbnlgambcaaa
open Go.RowKit

theorem mk_flip (s : Bool) (b : Nat) (h : Hd) (c : Bool) (X Y : TT) : mk (!s) b h c X Y = mk s b h c Y X := by cases s <;> rfl

theorem recolZ {H : Hp} {cx : Cx} {s : Bool} {b : Nat} {h : Hd} {c : Bool} {X Y : TT} (hz : Holds H .none (plug cx (mk s b h c X Y))) (nd : (plug cx (mk s b h c X Y)).ids.Nodup) (r : Bool) :
    Holds (upd H b (·.setRed r)) .none (plug cx (mk s b h r X Y)) := by
  obtain ⟨hcx, hT⟩ := holds_plug.1 hz
  obtain ⟨hb, hX, hY⟩ := holds_mk.1 hT
  obtain ⟨n1, n2, n3⟩ := nd_frames nd
  obtain ⟨bX, bY, _, _, _⟩ := nd_mk n2
  rw [mk_ptr, mk_cnt] at hcx
  refine holds_plug.2 ⟨?_, holds_mk.2 ⟨?_, ?_, ?_⟩⟩
  · rw [mk_ptr, mk_cnt]
    exact hcx.frame (fun j hj => upd_other _ _ _ _ (fun e => n3 j hj (mem_mk.2 (.inl e))))
  · rw [upd_same, hb]; rfl
  · exact hX.frame (fun j hj => upd_other _ _ _ _ (fun e => bX (e ▸ hj)))
  · exact hY.frame (fun j hj => upd_other _ _ _ _ (fun e => bY (e ▸ hj)))
theorem recol_prs (cx : Cx) (s : Bool) (b : Nat) (h : Hd) (c r : Bool) (X Y : TT) : (plug cx (mk s b h r X Y)).prs = (plug cx (mk s b h c X Y)).prs := by
  rw [plug_prs, plug_prs]
  cases s <;> simp [mk, TT.prs]

/-- A tree whose root has this colour, each way down over this many black ones. -/
inductive RB : TT → Bool → Nat → Prop
  | leaf : RB .leaf false 0
  | red {b : Nat} {h : Hd} {l r : TT} {n : Nat} : RB l false n → RB r false n → RB (.node b h true l r) true n
  | black {b : Nat} {h : Hd} {l r : TT} {c d : Bool} {n : Nat} : RB l c n → RB r d n → RB (.node b h false l r) false (n + 1)

theorem RB.mkRed {s : Bool} {b : Nat} {h : Hd} {X Y : TT} {n : Nat} (hX : RB X false n) (hY : RB Y false n) : RB (mk s b h true X Y) true n := by
  cases s
  · exact RB.red hX hY
  · exact RB.red hY hX
theorem RB.mkBlack {s : Bool} {b : Nat} {h : Hd} {X Y : TT} {c d : Bool} {n : Nat} (hX : RB X c n) (hY : RB Y d n) : RB (mk s b h false X Y) false (n + 1) := by
  cases s
  · exact RB.black hX hY
  · exact RB.black hY hX
theorem RB.col {T : TT} {c : Bool} {n : Nat} (h : RB T c n) : T.col = c := by cases h <;> rfl

/-- What may stand at a place: a tree of this many black ones a way; a red one under no red one. -/
def FitC : Cx → Nat → Prop
  | [], _ => True
  | f :: cx, n => (f.red = true ∧ RB f.o false n ∧ (∃ g cx', cx = g :: cx' ∧ g.red = false) ∧ FitC cx n) ∨ (f.red = false ∧ (∃ c, RB f.o c n) ∧ FitC cx (n + 1))
/-- May the place bear a root of this colour? -/
def MayC (cx : Cx) (c : Bool) : Prop := c = true → ∃ f cx', cx = f :: cx' ∧ f.red = false

theorem plug_rb : ∀ {cx : Cx} {T : TT} {c : Bool} {n : Nat}, RB T c n → FitC cx n → MayC cx c → ∃ N, RB (plug cx T) false N
  | [], T, c, n, h, _, hm => by
    cases c with
    | false => exact ⟨n, h⟩
    | true => obtain ⟨f, cx', e, _⟩ := hm rfl; cases e
  | f :: cx, T, c, n, h, hf, hm => by
    rw [plug]
    rcases hf with ⟨hr, ho, hg, hf⟩ | ⟨hr, ⟨d, ho⟩, hf⟩
    · have hc : c = false := by
        cases c with
        | false => rfl
        | true =>
          obtain ⟨f', cx', e, hr'⟩ := hm rfl
          cases e
          rw [hr] at hr'
          cases hr'
      subst hc
      rw [hr]
      exact plug_rb (RB.mkRed h ho) hf (fun _ => hg)
    · rw [hr]
      exact plug_rb (RB.mkBlack h ho) hf (fun e => by cases e)
theorem rb_plug : ∀ {cx : Cx} {T : TT} {N : Nat}, RB (plug cx T) false N → ∃ c n, RB T c n ∧ FitC cx n ∧ MayC cx c
  | [], T, N, h => ⟨false, N, h, trivial, fun e => by cases e⟩
  | f :: cx, T, N, h => by
    rw [plug] at h
    obtain ⟨c, n, hT, hf, hm⟩ := rb_plug h
    cases hr : f.red with
    | true =>
      rw [hr] at hT
      have h2 : RB T false n ∧ RB f.o false n ∧ c = true := by
        cases hs : f.s <;> rw [hs] at hT
        · cases hT with
          | red h1 h2 => exact ⟨h1, h2, rfl⟩
        · cases hT with
          | red h1 h2 => exact ⟨h2, h1, rfl⟩
      obtain ⟨h3, h4, rfl⟩ := h2
      exact ⟨false, n, h3, .inl ⟨hr, h4, hm rfl, hf⟩, fun e => by cases e⟩
    | false =>
      rw [hr] at hT
      have h2 : ∃ d e n', RB T d n' ∧ RB f.o e n' ∧ n = n' + 1 := by
        cases hs : f.s <;> rw [hs] at hT
        · cases hT with
          | black h1 h2 => exact ⟨_, _, _, h1, h2, rfl⟩
        · cases hT with
          | black h1 h2 => exact ⟨_, _, _, h2, h1, rfl⟩
      obtain ⟨d, e, n', h3, h4, rfl⟩ := h2
      exact ⟨d, n', h3, .inr ⟨hr, ⟨e, h4⟩, hf⟩, fun _ => ⟨f, cx, rfl, hr⟩⟩

/-- The last step of settles, at a tree that is in order: nothing turns. -/
theorem finZ {H : Hp} {T : TT} {N : Nat} (hz : Holds H .none T) (hr : RB T false N) (hl : T ≠ .leaf) : finH T.ptr H = some (T.ptr, H) := by
  cases T with
  | leaf => exact absurd rfl hl
  | node b h c l r =>
    have hc : c = false := hr.col
    subst hc
    have hb := hz.1
    simp only [finH, TT.ptr, Option.bind_some, hb, Option.map_some, Option.some.injEq, Prod.mk.injEq, true_and]
    funext k
    unfold upd
    by_cases e : k = b
    · subst e; rw [if_pos rfl, hb]; rfl
    · rw [if_neg e]
theorem mk_ne (s : Bool) (b : Nat) (h : Hd) (c : Bool) (X Y : TT) : mk s b h c X Y ≠ .leaf := by cases s <;> simp [mk]
theorem plug_ne : ∀ {cx : Cx} {T : TT}, T ≠ .leaf → plug cx T ≠ .leaf
  | [], _, h => h
  | _ :: _, _, _ => by rw [plug]; exact plug_ne (mk_ne _ _ _ _ _ _)

theorem plug_cnt_prs {cx cx' : Cx} {T T' : TT} (h : (plug cx' T').prs = (plug cx T).prs) : (plug cx' T').cnt = (plug cx T).cnt := by rw [TT.cnt_prs, TT.cnt_prs, h]
theorem plug_nd_prs {cx cx' : Cx} {T T' : TT} (h : (plug cx' T').prs = (plug cx T).prs) (nd : (plug cx T).ids.Nodup) : (plug cx' T').ids.Nodup := by
  rw [TT.ids_prs, h, ← TT.ids_prs]; exact nd
theorem ndpair {cx : Cx} {s : Bool} {g p : Nat} {hg hp : Hd} {cg cp : Bool} {Q R U : TT} (nd : (plug cx (mk s g hg cg (mk s p hp cp Q R) U)).ids.Nodup) : p ≠ g := by
  obtain ⟨_, n2, _⟩ := nd_frames nd
  obtain ⟨gP, _⟩ := nd_mk n2
  exact fun e => gP (mem_mk.2 (.inl e.symm))

/-- p, red, under a black g, on its side s; a red one on p's side s: g goes down. -/
theorem settles2Z {H : Hp} {cx : Cx} {s : Bool} {p g : Nat} {hp hg : Hd} {cp : Bool} {Q R U : TT} {n : Nat} (hz : Holds H .none (plug cx (mk s g hg false (mk s p hp cp Q R) U)))
    (nd : (plug cx (mk s g hg false (mk s p hp cp Q R) U)).ids.Nodup) (small : (plug cx (mk s g hg false (mk s p hp cp Q R) U)).cnt < 1099511627776) (hQ : RB Q true n) (hR : RB R false n) (hU : RB U false n) (hf : FitC cx (n + 1)) :
    ∃ H' T' N, settles2H (rootC cx (some g)) H p g s = some (T'.ptr, H') ∧ Holds H' .none T' ∧ RB T' false N ∧ T'.prs = (plug cx (mk s g hg false (mk s p hp cp Q R) U)).prs := by
  have hpg := ndpair nd
  have z1 : Holds (upd H p (·.setRed false)) .none (plug cx (mk s g hg false (mk s p hp false Q R) U)) := recolZ (cx := ⟨g, hg, false, s, U⟩ :: cx) (s := s) (b := p) hz nd false
  have p1 : (plug cx (mk s g hg false (mk s p hp false Q R) U)).prs = (plug cx (mk s g hg false (mk s p hp cp Q R) U)).prs := recol_prs (⟨g, hg, false, s, U⟩ :: cx) s p hp cp false Q R
  have nd1 := plug_nd_prs p1 nd
  have z2 := recolZ z1 nd1 true
  have p2 := (recol_prs cx s g hg false true (mk s p hp false Q R) U).trans p1
  have nd2 := plug_nd_prs p2 nd
  have e : mk s g hg true (mk s p hp false Q R) U = mk (!s) g hg true U (mk (!s) p hp false R Q) := by rw [mk_flip, mk_flip]
  rw [e] at z2 p2 nd2
  obtain ⟨H', ht, hz'⟩ := turnZ z2 nd2 (by rw [plug_cnt_prs p2]; exact small)
  have hrb : RB (mk (!s) p hp false (mk (!s) g hg true U R) Q) false (n + 1) := RB.mkBlack (RB.mkRed hU hR) hQ
  obtain ⟨N, hN⟩ := plug_rb hrb hf (fun e => by cases e)
  have hfin := finZ hz' hN (plug_ne (mk_ne _ _ _ _ _ _))
  refine ⟨H', _, N, ?_, hz', hN, (turn_prs _ _ _ _ _ _ _ _ _ _ _).trans p2⟩
  obtain ⟨P, hP⟩ := Option.isSome_iff_exists.1 (hz.some p ((plug_ids _ _).mem_iff.2 (by simp [mem_mk])))
  obtain ⟨G, hG⟩ := Option.isSome_iff_exists.1 (hz.some g ((plug_ids _ _).mem_iff.2 (by simp [mem_mk])))
  unfold settles2H
  rw [if_neg hpg, hP, Option.bind_some, hG, Option.bind_some, ht, Option.bind_some]
  rw [plug_ptr, mk_ptr] at hfin ⊢
  exact hfin

theorem red_node {T : TT} {n : Nat} (h : RB T true n) : ∃ b hh l r, T = .node b hh true l r ∧ RB l false n ∧ RB r false n := by
  cases h with
  | red h1 h2 => exact ⟨_, _, _, _, rfl, h1, h2⟩
theorem mk_of (s : Bool) (b : Nat) (h : Hd) (c : Bool) (l r : TT) : ∃ X Y, TT.node b h c l r = mk s b h c X Y ∧ ((X = l ∧ Y = r) ∨ (X = r ∧ Y = l)) := by
  cases s
  · exact ⟨l, r, rfl, .inl ⟨rfl, rfl⟩⟩
  · exact ⟨r, l, rfl, .inr ⟨rfl, rfl⟩⟩
theorem mk_node (s : Bool) (b : Nat) (h : Hd) (c : Bool) (X Y : TT) : ∃ l r, mk s b h c X Y = TT.node b h c l r ∧ ((l = X ∧ r = Y) ∨ (l = Y ∧ r = X)) := by
  cases s
  · exact ⟨X, Y, rfl, .inl ⟨rfl, rfl⟩⟩
  · exact ⟨Y, X, rfl, .inr ⟨rfl, rfl⟩⟩

theorem settlesZ : ∀ (m : Nat) {H : Hp} {cx : Cx} {x : Nat} {hx : Hd} {l r : TT} {n k : Nat}, cx.length ≤ m → m < k → Holds H .none (plug cx (.node x hx true l r)) → (plug cx (.node x hx true l r)).ids.Nodup →
    (plug cx (.node x hx true l r)).cnt < 1099511627776 → RB l false n → RB r false n → FitC cx n →
    ∃ H' T' N, settlesH k (rootC cx (some x)) H x = some (T'.ptr, H') ∧ Holds H' .none T' ∧ RB T' false N ∧ T'.prs = (plug cx (.node x hx true l r)).prs := by
  intro m
  induction m using Nat.strongRecOn with
  | _ m ih =>
  intro H cx x hx l r n k hm hk hz nd small hl hr hf
  obtain ⟨k, rfl⟩ : ∃ j, k = j + 1 := ⟨k - 1, by omega⟩
  obtain ⟨hcx, hT⟩ := holds_plug.1 hz
  have hX := hT.1
  cases cx with
  | nil =>
    refine ⟨upd H x (·.setRed false), .node x hx false l r, n + 1, ?_, recolZ (cx := []) (s := false) hz nd false, RB.black hl hr, rfl⟩
    simp only [settlesH, hX, Option.bind_some, upC, redH, if_true, rootC, finH, TT.ptr, Option.map_some]
  | cons f cx =>
    obtain ⟨hF, hfo, hcx'⟩ := hcx
    rcases hf with ⟨hfr, hfoR, ⟨g, cx2, rfl, hgr⟩, hf⟩ | ⟨hfr, ⟨d, hfoR⟩, hf⟩
    · -- a red one above
      rcases hf with ⟨hgr', _⟩ | ⟨_, ⟨d, hgoR⟩, hf⟩
      · rw [hgr] at hgr'; cases hgr'
      obtain ⟨hG, hgo, hcx2⟩ := hcx'
      obtain ⟨n1, n2, n3⟩ := nd_frames nd
      have fg : f.b ≠ g.b := fun e => by
        simp only [idsC, List.cons_append, List.nodup_cons, List.mem_append, List.mem_cons, not_or] at n1
        exact n1.1.2.1 e
      have hs : whichH H f.b = some g.s := whichZ (cx := g :: cx2) hF rfl ⟨hG, hgo, hcx2⟩ (by
        simp only [idsC, List.cons_append, List.nodup_cons, List.mem_append, List.mem_cons, not_or] at n1 ⊢
        exact n1.1.2)
      have hsx : whichH H x = some f.s := whichZ (cx := f :: g :: cx2) hX rfl ⟨hF, hfo, hG, hgo, hcx2⟩ (fun h => n3 x h (by simp [TT.ids]))
      have hrew : settlesH (k + 1) (rootC (f :: g :: cx2) (some x)) H x = (if g.o.col = true then
          (g.o.ptr).bind fun u => if u = f.b ∨ g.b = f.b ∨ g.b = u then .none else
          settlesH k (rootC cx2 (some g.b)) (upd (upd (upd H f.b (·.setRed false)) u (·.setRed false)) g.b (·.setRed true)) g.b
        else
          if f.s = g.s then settles2H (rootC cx2 (some g.b)) H f.b g.b g.s
          else (turnH (rootC cx2 (some g.b)) H f.b g.s).bind fun q => settles2H q.1 q.2 x g.b g.s) := by
        obtain ⟨Xn, hXn, hXu⟩ : ∃ Xn, H x = some Xn ∧ Xn.up = some f.b := ⟨_, hX, rfl⟩
        obtain ⟨Fn, hFn, hFu⟩ : ∃ Fn, H f.b = some Fn ∧ Fn.up = some g.b := ⟨_, hF, rfl⟩
        obtain ⟨Gn, hGn, hGk⟩ : ∃ Gn, H g.b = some Gn ∧ Gn.kid (!g.s) = g.o.ptr := ⟨_, hG, by cases hs : g.s <;> simp [ndF, Nd.kid, hs]⟩
        have hr1 : redH H (some f.b) = some true := by simp [redH, hF, hfr, ndF]
        have hur : redH H g.o.ptr = some g.o.col := hgo.red
        conv => lhs; unfold settlesH
        simp only [hXn, Option.bind_some, hXu, hr1, Bool.true_eq_false, if_false, hFn, hFu, hs, hGn, hGk, hur, hsx, rootC]
      have hplug : plug (f :: g :: cx2) (.node x hx true l r) = plug cx2 (mk g.s g.b g.h false (mk f.s f.b f.h true (.node x hx true l r) f.o) g.o) := by
        simp only [plug, hfr, hgr]
      rw [hplug] at hz nd small ⊢
      cases hc : g.o.col with
      | true =>
        rw [hc] at hrew
        have hgoT : RB g.o true n := by
          have := hgoR.col
          rw [hc] at this
          rw [this]
          exact hgoR
        obtain ⟨u, hu, ul, ur, hgoe, hul, hur'⟩ := red_node hgoT
        have nds := nd_frames nd
        obtain ⟨gP, gU, _, _, dPU⟩ := nd_mk nds.2.1
        have uf : u ≠ f.b := fun e => dPU f.b (mem_mk.2 (.inl rfl)) (by rw [hgoe]; simp [TT.ids, e])
        have gu : g.b ≠ u := fun e => gU (by rw [hgoe]; simp [TT.ids, e])
        have z1 : Holds (upd H f.b (·.setRed false)) .none (plug cx2 (mk g.s g.b g.h false (mk f.s f.b f.h false (.node x hx true l r) f.o) g.o)) := recolZ (cx := ⟨g.b, g.h, false, g.s, g.o⟩ :: cx2) (s := f.s) (b := f.b) hz nd false
        have p1 : (plug cx2 (mk g.s g.b g.h false (mk f.s f.b f.h false (.node x hx true l r) f.o) g.o)).prs = _ := recol_prs (⟨g.b, g.h, false, g.s, g.o⟩ :: cx2) f.s f.b f.h true false (.node x hx true l r) f.o
        have nd1 := plug_nd_prs (T := mk g.s g.b g.h false (mk f.s f.b f.h true (.node x hx true l r) f.o) g.o) (cx := cx2) p1 nd
        rw [hgoe] at z1 p1 nd1
        have z2 : Holds (upd (upd H f.b (·.setRed false)) u (·.setRed false)) .none (plug cx2 (mk g.s g.b g.h false (mk f.s f.b f.h false (.node x hx true l r) f.o) (.node u hu false ul ur))) := by
          rw [← mk_flip] at z1 nd1 ⊢
          exact recolZ (cx := ⟨g.b, g.h, false, !g.s, mk f.s f.b f.h false (.node x hx true l r) f.o⟩ :: cx2) (s := false) (b := u) (X := ul) (Y := ur) z1 nd1 false
        have p2 : (plug cx2 (mk g.s g.b g.h false (mk f.s f.b f.h false (.node x hx true l r) f.o) (.node u hu false ul ur))).prs = (plug cx2 (mk g.s g.b g.h false (mk f.s f.b f.h false (.node x hx true l r) f.o) (.node u hu true ul ur))).prs := by
          have h := recol_prs (⟨g.b, g.h, false, !g.s, mk f.s f.b f.h false (.node x hx true l r) f.o⟩ :: cx2) false u hu true false ul ur
          simp only [plug, mk_flip] at h
          exact h
        have nd2 := plug_nd_prs p2 nd1
        have z3 := recolZ z2 nd2 true
        have p3 := recol_prs cx2 g.s g.b g.h false true (mk f.s f.b f.h false (.node x hx true l r) f.o) (.node u hu false ul ur)
        have nd3 := plug_nd_prs p3 nd2
        have pall := p3.trans (p2.trans p1)
        have rP : RB (mk f.s f.b f.h false (.node x hx true l r) f.o) false (n + 1) := RB.mkBlack (RB.red hl hr) hfoR
        have rU : RB (.node u hu false ul ur) false (n + 1) := RB.black hul hur'
        obtain ⟨l', r', hmk, hlr⟩ := mk_node g.s g.b g.h true (mk f.s f.b f.h false (.node x hx true l r) f.o) (.node u hu false ul ur)
        rw [hmk] at z3 nd3 pall
        have sm3 : (plug cx2 (.node g.b g.h true l' r')).cnt < 1099511627776 := by
          rw [TT.cnt_prs, pall, ← hgoe]
          rw [TT.cnt_prs] at small
          exact small
        have hl' : RB l' false (n + 1) := by
          rcases hlr with ⟨rfl, rfl⟩ | ⟨rfl, rfl⟩
          · exact rP
          · exact rU
        have hr' : RB r' false (n + 1) := by
          rcases hlr with ⟨rfl, rfl⟩ | ⟨rfl, rfl⟩
          · exact rU
          · exact rP
        simp only [List.length_cons] at hm
        obtain ⟨H', T', N, e1, e2, e3, e4⟩ := ih cx2.length (by omega) (k := k) (Nat.le_refl _) (by omega) z3 nd3 sm3 hl' hr' hf
        refine ⟨H', T', N, ?_, e2, e3, ?_⟩
        · rw [hrew, if_pos rfl, hgoe]
          simp only [TT.ptr, Option.bind_some]
          rw [if_neg (by simp only [not_or]; exact ⟨uf, fun e => fg e.symm, gu⟩)]
          exact e1
        · exact (e4.trans pall).trans (by rw [hgoe]; rfl)
      | false =>
        rw [hc] at hrew
        simp only [Bool.false_eq_true, if_false] at hrew
        have hgoF : RB g.o false n := by
          have := hgoR.col
          rw [hc] at this
          rw [this]
          exact hgoR
        by_cases hfs : f.s = g.s
        · rw [if_pos hfs] at hrew
          rw [hfs] at hz nd small ⊢
          obtain ⟨H', T', N, e1, e2, e3, e4⟩ := settles2Z hz nd small (RB.red hl hr) hfoR hgoF hf
          exact ⟨H', T', N, by rw [hrew, e1], e2, e3, e4⟩
        · rw [if_neg hfs] at hrew
          have hfs' : f.s = !g.s := by revert hfs; cases f.s <;> cases g.s <;> simp
          rw [hfs', mk_flip] at hz nd small ⊢
          obtain ⟨Xs, Xo, hxe, hxlr⟩ := mk_of g.s x hx true l r
          rw [hxe] at hz nd small ⊢
          have hXs : RB Xs false n ∧ RB Xo false n := by
            rcases hxlr with ⟨rfl, rfl⟩ | ⟨rfl, rfl⟩
            · exact ⟨hl, hr⟩
            · exact ⟨hr, hl⟩
          obtain ⟨H1, t1, z1⟩ := turnZ (cx := ⟨g.b, g.h, false, g.s, g.o⟩ :: cx2) (s := g.s) (x := f.b) (y := x) (A := f.o) (B := Xs) (C := Xo) hz nd small
          have p1 : (plug cx2 (mk g.s g.b g.h false (mk g.s x hx true (mk g.s f.b f.h true f.o Xs) Xo) g.o)).prs = _ := turn_prs (⟨g.b, g.h, false, g.s, g.o⟩ :: cx2) g.s f.b x f.h hx true true f.o Xs Xo
          have nd1 := plug_nd_prs (cx := cx2) (T := mk g.s g.b g.h false (mk g.s f.b f.h true f.o (mk g.s x hx true Xs Xo)) g.o) p1 nd
          have sm1 : (plug cx2 (mk g.s g.b g.h false (mk g.s x hx true (mk g.s f.b f.h true f.o Xs) Xo) g.o)).cnt < 1099511627776 := by
            rw [TT.cnt_prs, p1]
            rw [TT.cnt_prs] at small
            exact small
          obtain ⟨H', T', N, e1, e2, e3, e4⟩ := settles2Z (p := x) z1 nd1 sm1 (RB.mkRed hfoR hXs.1) hXs.2 hgoF hf
          refine ⟨H', T', N, ?_, e2, e3, e4.trans p1⟩
          rw [hrew]
          have t1' : turnH (rootC cx2 (some g.b)) H f.b g.s = some (rootC cx2 (some g.b), H1) := t1
          rw [t1', Option.bind_some]
          exact e1
    · -- a black one above: all is well
      obtain ⟨N, hN⟩ := plug_rb (cx := f :: cx) (RB.red (b := x) (h := hx) hl hr) (.inr ⟨hfr, ⟨d, hfoR⟩, hf⟩) (fun _ => ⟨f, cx, rfl, hfr⟩)
      have hfin := finZ hz hN (plug_ne (by simp))
      refine ⟨H, plug (f :: cx) (.node x hx true l r), N, ?_, hz, hN, rfl⟩
      rw [plug_ptr] at hfin ⊢
      simp only [settlesH, hX, Option.bind_some, upC, redH, hF, Option.map_some, ndF, hfr, if_true]
      exact hfin

end Go.Proofs.Ytimhbnlgambcaaa
