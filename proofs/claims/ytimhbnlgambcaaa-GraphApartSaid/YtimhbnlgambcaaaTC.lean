/- The walk of turn. -/
import Derived.Test.YtimhbnlgambcaaaTB
import Derived.Lib.Hide
namespace Go.Proofs.Ytimhbnlgambcaaa
open Go.RowKit

theorem hangH_dom {root root' : Option Nat} {H H' : Hp} {old : Nat} {x : Option Nat} (h : hangH root H old x = some (root', H')) (k : Nat) : (H' k).isSome = (H k).isSome := by
  simp only [hangH, Option.bind_eq_some_iff] at h
  obtain ⟨O, hO, p, hp, h⟩ := h
  have e1 : (p.2 k).isSome = (H k).isSome := by
    cases hu : O.up with
    | none => rw [hu] at hp; cases hp; rfl
    | some u =>
      rw [hu] at hp
      simp only [Option.bind_eq_some_iff] at hp
      obtain ⟨k', hk', hp⟩ := hp
      cases hp
      exact upd_dom _ _ _ _
  cases x with
  | none => cases h; exact e1
  | some c =>
    simp only [Option.bind_eq_some_iff] at h
    obtain ⟨C, hC, h⟩ := h
    cases h
    rw [upd_dom]; exact e1

theorem countsH_dom {H H' : Hp} {x : Nat} (h : countsH H x = some H') (k : Nat) : (H' k).isSome = (H k).isSome := by
  simp only [countsH, Option.bind_eq_some_iff, Option.some.injEq] at h
  obtain ⟨X, hX, a, ha, b, hb, rfl⟩ := h
  exact upd_dom _ _ _ _

theorem TS.of_dom {tb : Nat} {H H' : Hp} (h : ∀ k, (H' k).isSome = (H k).isSome) : TS tb H' = TS tb H := by
  funext k; simp [TS, h]

set_option maxRecDepth 100000 in
set_option maxHeartbeats 1000000 in
theorem turn_nil (w : World) (tb mb : Nat) (root root1 : Option Nat) (H H1 H6 H7 : Hp) (hR : TR w tb mb root H) (x : Nat) (s : Bool) (X : Nd) (hX : H x = some X) (y : Nat) (hy : X.kid (!s) = some y)
    (hp : hangH root H x (some y) = some (root1, H1)) (Y : Nd) (hY : H1 y = some Y) (hk : Y.kid s = .none)
    (h6 : countsH (upd (upd (upd H1 x (·.setKid (!s) .none)) y (·.setKid s (some x))) x (·.setUp (some y))) x = some H6) (h7 : countsH H6 y = some H7) :
    Calls Try.prog 72 #[.pointer (some ⟨tb, 0, .none⟩), .pointer (some ⟨x, 0, .none⟩), .int .i64 (bi s)] w fun e w' => e = .returned (.tuple #[]) ∧ TR w' tb mb root1 H7 ∧ Kp (TS tb H) w w' := by
  have hx1 : (H1 x).isSome = true := by rw [hangH_dom hp]; simp [hX]
  obtain ⟨X1, hX1⟩ := Option.isSome_iff_exists.1 hx1
  have a2 := (hR.h x X hX).c2
  have a3 := (hR.h x X hX).c3
  have hT1 : TS tb H1 = TS tb H := TS.of_dom (hangH_dom hp)
  have hT := Lib.hid hT1
  clear hT1 hx1
  have wr1 : IntKind.i64.wrap 1 = 1 := by decide
  have wr0 : IntKind.i64.wrap 0 = 0 := by decide
  cases s
  all_goals
    simp only [Bool.not_false, Bool.not_true, Nd.kid, bi] at *
    simp only [hy, adr_some] at a2 a3
    clear hy
    go_enter Try.func72, Try.ntmps72
    go_wp2_with fail
    refine (hang_any w tb mb root root1 H H1 hR x (some y) hp).mono ?_
    rintro e w1 ⟨rfl, hR1, hK1⟩
    have y2 := (hR1.h y Y hY).c2
    have y3 := (hR1.h y Y hY).c3
    have x2 := (hR1.h x X1 hX1).c2
    have x3 := (hR1.h x X1 hX1).c3
    have x4 := (hR1.h x X1 hX1).c4
    have yf := (hR1.h y Y hY).fz
    have xf := (hR1.h x X1 hX1).fz
    simp only [hk, adr_none] at y2 y3
    go_wp2_with fail
    go_still_tail 12, (by kernel_rfl)
    go_wp2_with fail
  · have hR2 := ((((hR1.kid1 x .none (by simp [hX1])).kid0 y (some x) (by simp [upd_dom, hY])).up x (some y) (by simp [upd_dom, hX1])).drew)
    refine (counts_any _ tb mb root1 _ H6 hR2 x h6).mono ?_
    rintro e w2 ⟨rfl, hR3, hK3⟩
    go_wp2_with fail
    refine (counts_any _ tb mb root1 _ H7 hR3 y h7).mono ?_
    rintro e w3 ⟨rfl, hR4, hK4⟩
    go_wp2_with fail
    go_end0
    refine ⟨rfl, hR4, hK1.trans ?_⟩
    rw [TS.of_dom (countsH_dom h6)] at hK4
    simp only [TS.of_dom (fun k => upd_dom _ _ k _)] at hK3 hK4
    rw [hT.out] at hK3 hK4
    refine Kp.trans ?_ (hK3.trans hK4)
    have tx : TS tb H x := hT.out ▸ .inr (by simp [hX1])
    have ty : TS tb H y := hT.out ▸ .inr (by simp [hY])
    exact ((((Kp.refl _ _).setCell _ _ _ tx).setCell _ _ _ ty).setCell _ _ _ tx).drew
  · have hR2 := ((((hR1.kid0 x .none (by simp [hX1])).kid1 y (some x) (by simp [upd_dom, hY])).up x (some y) (by simp [upd_dom, hX1])).drew)
    refine (counts_any _ tb mb root1 _ H6 hR2 x h6).mono ?_
    rintro e w2 ⟨rfl, hR3, hK3⟩
    go_wp2_with fail
    refine (counts_any _ tb mb root1 _ H7 hR3 y h7).mono ?_
    rintro e w3 ⟨rfl, hR4, hK4⟩
    go_wp2_with fail
    go_end0
    refine ⟨rfl, hR4, hK1.trans ?_⟩
    rw [TS.of_dom (countsH_dom h6)] at hK4
    simp only [TS.of_dom (fun k => upd_dom _ _ k _)] at hK3 hK4
    rw [hT.out] at hK3 hK4
    refine Kp.trans ?_ (hK3.trans hK4)
    have tx : TS tb H x := hT.out ▸ .inr (by simp [hX1])
    have ty : TS tb H y := hT.out ▸ .inr (by simp [hY])
    exact ((((Kp.refl _ _).setCell _ _ _ tx).setCell _ _ _ ty).setCell _ _ _ tx).drew

set_option maxRecDepth 100000 in
set_option maxHeartbeats 1000000 in
theorem turn_some (w : World) (tb mb : Nat) (root root1 : Option Nat) (H H1 H6 H7 : Hp) (hR : TR w tb mb root H) (x : Nat) (s : Bool) (X : Nd) (hX : H x = some X) (y : Nat) (hy : X.kid (!s) = some y)
    (hp : hangH root H x (some y) = some (root1, H1)) (Y : Nd) (hY : H1 y = some Y) (c : Nat) (hcx : ¬ c = x) (C : Nd) (hC : H c = some C) (hk : Y.kid s = some c)
    (h6 : countsH (upd (upd (upd (upd H1 x (·.setKid (!s) (some c))) c (·.setUp (some x))) y (·.setKid s (some x))) x (·.setUp (some y))) x = some H6) (h7 : countsH H6 y = some H7) :
    Calls Try.prog 72 #[.pointer (some ⟨tb, 0, .none⟩), .pointer (some ⟨x, 0, .none⟩), .int .i64 (bi s)] w fun e w' => e = .returned (.tuple #[]) ∧ TR w' tb mb root1 H7 ∧ Kp (TS tb H) w w' := by
  have hx1 : (H1 x).isSome = true := by rw [hangH_dom hp]; simp [hX]
  obtain ⟨X1, hX1⟩ := Option.isSome_iff_exists.1 hx1
  have a2 := (hR.h x X hX).c2
  have a3 := (hR.h x X hX).c3
  have hT1 : TS tb H1 = TS tb H := TS.of_dom (hangH_dom hp)
  have hT := Lib.hid hT1
  clear hT1 hx1
  have wr1 : IntKind.i64.wrap 1 = 1 := by decide
  have wr0 : IntKind.i64.wrap 0 = 0 := by decide
  cases s
  all_goals
    simp only [Bool.not_false, Bool.not_true, Nd.kid, bi] at *
    simp only [hy, adr_some] at a2 a3
    clear hy
    go_enter Try.func72, Try.ntmps72
    go_wp2_with fail
    refine (hang_any w tb mb root root1 H H1 hR x (some y) hp).mono ?_
    rintro e w1 ⟨rfl, hR1, hK1⟩
    have y2 := (hR1.h y Y hY).c2
    have y3 := (hR1.h y Y hY).c3
    have x2 := (hR1.h x X1 hX1).c2
    have x3 := (hR1.h x X1 hX1).c3
    have x4 := (hR1.h x X1 hX1).c4
    have yf := (hR1.h y Y hY).fz
    have xf := (hR1.h x X1 hX1).fz
    have hc1 : (H1 c).isSome = true := by rw [hangH_dom hp]; simp [hC]
    obtain ⟨C1, hC1⟩ := Option.isSome_iff_exists.1 hc1
    clear hc1
    have d4 := (hR1.h c C1 hC1).c4
    have df := (hR1.h c C1 hC1).fz
    simp only [hk, adr_some] at y2 y3
    go_wp2_with fail
    go_still_tail 12, (by kernel_rfl)
    go_wp2_with fail
  · have hR2 := (((((hR1.kid1 x (some c) (by simp [hX1])).up c (some x) (by simp [upd_dom, hC1])).kid0 y (some x) (by simp [upd_dom, hY])).up x (some y) (by simp [upd_dom, hX1])).drew)
    refine (counts_any _ tb mb root1 _ H6 hR2 x h6).mono ?_
    rintro e w2 ⟨rfl, hR3, hK3⟩
    go_wp2_with fail
    refine (counts_any _ tb mb root1 _ H7 hR3 y h7).mono ?_
    rintro e w3 ⟨rfl, hR4, hK4⟩
    go_wp2_with fail
    go_end0
    refine ⟨rfl, hR4, hK1.trans ?_⟩
    rw [TS.of_dom (countsH_dom h6)] at hK4
    simp only [TS.of_dom (fun k => upd_dom _ _ k _)] at hK3 hK4
    rw [hT.out] at hK3 hK4
    refine Kp.trans ?_ (hK3.trans hK4)
    have tx : TS tb H x := hT.out ▸ .inr (by simp [hX1])
    have ty : TS tb H y := hT.out ▸ .inr (by simp [hY])
    have tc : TS tb H c := .inr (by simp [hC])
    exact (((((Kp.refl _ _).setCell _ _ _ tx).setCell _ _ _ tc).setCell _ _ _ ty).setCell _ _ _ tx).drew
  · have hR2 := (((((hR1.kid0 x (some c) (by simp [hX1])).up c (some x) (by simp [upd_dom, hC1])).kid1 y (some x) (by simp [upd_dom, hY])).up x (some y) (by simp [upd_dom, hX1])).drew)
    refine (counts_any _ tb mb root1 _ H6 hR2 x h6).mono ?_
    rintro e w2 ⟨rfl, hR3, hK3⟩
    go_wp2_with fail
    refine (counts_any _ tb mb root1 _ H7 hR3 y h7).mono ?_
    rintro e w3 ⟨rfl, hR4, hK4⟩
    go_wp2_with fail
    go_end0
    refine ⟨rfl, hR4, hK1.trans ?_⟩
    rw [TS.of_dom (countsH_dom h6)] at hK4
    simp only [TS.of_dom (fun k => upd_dom _ _ k _)] at hK3 hK4
    rw [hT.out] at hK3 hK4
    refine Kp.trans ?_ (hK3.trans hK4)
    have tx : TS tb H x := hT.out ▸ .inr (by simp [hX1])
    have ty : TS tb H y := hT.out ▸ .inr (by simp [hY])
    have tc : TS tb H c := .inr (by simp [hC])
    exact (((((Kp.refl _ _).setCell _ _ _ tx).setCell _ _ _ tc).setCell _ _ _ ty).setCell _ _ _ tx).drew

theorem turn_any (w : World) (tb mb : Nat) (root root' : Option Nat) (H H' : Hp) (hR : TR w tb mb root H) (x : Nat) (s : Bool) (h : turnH root H x s = some (root', H')) :
    Calls Try.prog 72 #[.pointer (some ⟨tb, 0, .none⟩), .pointer (some ⟨x, 0, .none⟩), .int .i64 (bi s)] w fun e w' => e = .returned (.tuple #[]) ∧ TR w' tb mb root' H' ∧ Kp (TS tb H) w w' := by
  simp only [turnH, Option.bind_eq_some_iff] at h
  obtain ⟨X, hX, y, hy, ⟨r1, H1⟩, hp, Y, hY, H3, h3, H6, h6, H7, h7, h⟩ := h
  cases h
  cases hk : Y.kid s with
  | none =>
    rw [hk] at h3
    cases h3
    exact turn_nil w tb mb root _ H H1 H6 _ hR x s X hX y hy hp Y hY hk h6 h7
  | some c =>
    rw [hk] at h3
    by_cases hcx : c = x
    · simp [hcx] at h3
    simp only [if_neg hcx, Option.bind_eq_some_iff] at h3
    obtain ⟨C, hC, h3⟩ := h3
    cases h3
    exact turn_some w tb mb root _ H H1 H6 _ hR x s X hX y hy hp Y hY c hcx C hC hk h6 h7

theorem turnH_dom {root root' : Option Nat} {H H' : Hp} {x : Nat} {s : Bool} (h : turnH root H x s = some (root', H')) (k : Nat) : (H' k).isSome = (H k).isSome := by
  simp only [turnH, Option.bind_eq_some_iff] at h
  obtain ⟨X, hX, y, hy, ⟨r1, H1⟩, hp, Y, hY, H3, h3, H6, h6, H7, h7, h⟩ := h
  cases h
  rw [countsH_dom h7, countsH_dom h6, upd_dom, upd_dom, ← hangH_dom hp]
  cases hk : Y.kid s with
  | none =>
    rw [hk] at h3
    cases h3
    rw [upd_dom]
  | some c =>
    rw [hk] at h3
    by_cases hcx : c = x
    · simp [hcx] at h3
    simp only [if_neg hcx, Option.bind_eq_some_iff] at h3
    obtain ⟨C, hC, h3⟩ := h3
    cases h3
    rw [upd_dom, upd_dom]

end Go.Proofs.Ytimhbnlgambcaaa
