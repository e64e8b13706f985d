/- The walk of settles. -/
import Derived.Test.YtimhbnlgambcaaaTC
import Derived.Deep.LoopGhost
namespace Go.Proofs.Ytimhbnlgambcaaa
open Go.RowKit

theorem finH_some {root root' : Option Nat} {H H' : Hp} (h : finH root H = some (root', H')) : ∃ r R, root = some r ∧ H r = some R ∧ root' = some r ∧ H' = upd H r (·.setRed false) := by
  simp only [finH, Option.bind_eq_some_iff, Option.map_eq_some_iff, Prod.mk.injEq] at h
  obtain ⟨r, hr, R, hR, h1, h2⟩ := h
  exact ⟨r, R, hr, hR, h1.symm, h2.symm⟩

theorem settles2H_some {root : Option Nat} {H : Hp} {p g : Nat} {s : Bool} {res : Option Nat × Hp} (h : settles2H root H p g s = some res) :
    p ≠ g ∧ ∃ q, turnH root (upd (upd H p (·.setRed false)) g (·.setRed true)) g (!s) = some q ∧ finH q.1 q.2 = some res := by
  unfold settles2H at h
  by_cases e : p = g
  · simp [e] at h
  · simp only [if_neg e, Option.bind_eq_some_iff] at h
    obtain ⟨_, _, _, _, q, hq, h⟩ := h
    exact ⟨e, q, hq, h⟩

set_option maxRecDepth 100000 in
set_option maxHeartbeats 2000000 in
theorem settles_any (w : World) (tb mb : Nat) (n : Nat) (root root' : Option Nat) (H H' : Hp) (hR : TR w tb mb root H) (x : Nat) (h : settlesH n root H x = some (root', H')) :
    Calls Try.prog 48 #[.pointer (some ⟨tb, 0, .none⟩), .pointer (some ⟨x, 0, .none⟩)] w fun e w' => e = .returned (.tuple #[]) ∧ TR w' tb mb root' H' ∧ Kp (TS tb H) w w' := by
  go_enter Try.func48, Try.ntmps48
  go_wp2_with fail
  go_loopg [1] n (fun k v wr => ∃ root1 H1 x1, v = .pointer (some ⟨x1, 0, .none⟩) ∧ settlesH k root1 H1 x1 = some (root', H') ∧ TR wr tb mb root1 H1 ∧ TS tb H1 = TS tb H ∧ Kp (TS tb H) w wr)
  case atStart => exact ⟨root, H, x, rfl, h, hR, rfl, Kp.refl _ _⟩
  case round =>
    obtain ⟨root1, H1, x1, rfl, hs, hR1, hT1, hK1⟩ := hrel
    have hT := Lib.hid hT1
    clear hT1 h hR
    cases gk with
    | zero => cases hs
    | succ gk =>
    simp only [settlesH, Option.bind_eq_some_iff] at hs
    obtain ⟨X, hX, r, hr, hs⟩ := hs
    have x4 := (hR1.h x1 X hX).c4
    cases r with
    | false =>
      simp only [if_true] at hs
      obtain ⟨r0, R0, rfl, hR0, rfl, rfl⟩ := finH_some hs
      have t0 := hR1.t.c0
      have r6 := (hR1.h r0 R0 hR0).c6
      have rf := (hR1.h r0 R0 hR0).fz
      simp only [adr_some] at t0
      go_wp2_with (go_at_call 73; refine (isRed_any _ H1 hR1.h _ _ hr).mono ?_; rintro e w1 ⟨rfl, rfl⟩)
      go_end0
      exact ⟨rfl, hR1.red r0 false (by simp [hR0]), hK1.setCell _ _ _ (hT.out ▸ .inr (by simp [hR0]))⟩
    | true =>
      simp only [Bool.true_eq_false, if_false, Option.bind_eq_some_iff] at hs
      obtain ⟨p, hp, P, hP, g, hg, s, hss, G, hG, ur, hur, hs⟩ := hs
      have p4 := (hR1.h p P hP).c4
      rw [hp] at x4 hr
      rw [hg] at p4
      simp only [adr_some] at x4 p4
      have g2 := (hR1.h g G hG).c2
      have g3 := (hR1.h g G hG).c3
      have g6 := (hR1.h g G hG).c6
      have gf := (hR1.h g G hG).fz
      have p6 := (hR1.h p P hP).c6
      have pf := (hR1.h p P hP).fz
      clear hp hg
      cases ur with
      | true =>
        simp only [if_true, Option.bind_eq_some_iff] at hs
        obtain ⟨u, hu, hs⟩ := hs
        by_cases hd : u = p ∨ g = p ∨ g = u
        · simp [hd] at hs
        simp only [if_neg hd] at hs
        simp only [not_or] at hd
        obtain ⟨d1, d2, d3⟩ := hd
        rw [hu] at hur
        have hU : ∃ U, H1 u = some U := by
          simp only [redH, Option.map_eq_some_iff] at hur
          obtain ⟨U, hU, _⟩ := hur
          exact ⟨U, hU⟩
        obtain ⟨U, hU⟩ := hU
        have u6 := (hR1.h u U hU).c6
        have uf := (hR1.h u U hU).fz
        have hw := which_any wr H1 hR1.h p s hss
        cases s
        all_goals
          simp only [Bool.not_false, Bool.not_true, Nd.kid, bi] at *
          simp only [hu, adr_some] at g2 g3
          clear hu
          go_wp2_with fail
          refine (isRed_any _ H1 hR1.h _ _ hr).mono ?_
          rintro e w1 ⟨rfl, rfl⟩
          go_wp2_with fail
          refine hw.mono ?_
          rintro e w1 ⟨rfl, rfl⟩
          go_wp2_with fail
          refine (isRed_any _ H1 hR1.h _ _ hur).mono ?_
          rintro e w1 ⟨rfl, rfl⟩
          go_wp2_with fail
          go_roundg gk
          case measure => omega
          case rel =>
            exact ⟨root1, _, g, rfl, hs, ((hR1.red p false (by simp [hP])).red u false (by simp [upd_dom, hU])).red g true (by simp [upd_dom, hG]),
              by rw [← hT.out]; exact TS.of_dom (fun k => by simp [upd_dom]),
              ((hK1.setCell _ _ _ (hT.out ▸ .inr (by simp [hP]))).setCell _ _ _ (hT.out ▸ .inr (by simp [hU]))).setCell _ _ _ (hT.out ▸ .inr (by simp [hG]))⟩
      | false =>
        simp only [Bool.false_eq_true, if_false, Option.bind_eq_some_iff] at hs
        obtain ⟨wx, hwx, hs⟩ := hs
        have hw := which_any wr H1 hR1.h p s hss
        have hv := which_any wr H1 hR1.h x1 wx hwx
        by_cases hwe : wx = s
        · subst hwe
          rw [if_pos rfl] at hs
          obtain ⟨hpg, ⟨r2, H2⟩, hq, hfin⟩ := settles2H_some hs
          have hgp : ¬ g = p := fun e => hpg e.symm
          cases wx
          all_goals
            simp only [Bool.not_false, Bool.not_true, Nd.kid, bi] at *
            go_wp2_with fail
            refine (isRed_any _ H1 hR1.h _ _ hr).mono ?_
            rintro e w1 ⟨rfl, rfl⟩
            go_wp2_with fail
            refine hw.mono ?_
            rintro e w1 ⟨rfl, rfl⟩
            go_wp2_with fail
            refine (isRed_any _ H1 hR1.h _ _ hur).mono ?_
            rintro e w1 ⟨rfl, rfl⟩
            go_wp2_with fail
            refine hv.mono ?_
            rintro e w1 ⟨rfl, rfl⟩
            go_wp2_with fail
            have hR2 := (hR1.red p false (by simp [hP])).red g true (by simp [upd_dom, hG])
            refine (turn_any _ tb mb _ _ _ _ hR2 g _ hq).mono ?_
            rintro e w2 ⟨rfl, hR3, hK3⟩
            obtain ⟨r0, R0, hr2, hR0, rfl, rfl⟩ := finH_some hfin
            have t0 := hR3.t.c0
            have r6 := (hR3.h r0 R0 hR0).c6
            have rf := (hR3.h r0 R0 hR0).fz
            simp only [hr2, adr_some] at t0
            rw [hr2] at hR3
            clear hr2
            have hS : TS tb H2 = TS tb H1 := (TS.of_dom (turnH_dom hq)).trans (TS.of_dom (fun k => by simp [upd_dom]))
            have hS2 := Lib.hid (hS.trans hT.out)
            simp only [TS.of_dom (fun k => upd_dom _ _ k _)] at hK3
            rw [hT.out] at hK3
            have hK4 := ((hK1.setCell p 6 (.bool false) (hT.out ▸ .inr (by simp [hP]))).setCell g 6 (.bool true) (hT.out ▸ .inr (by simp [hG]))).trans hK3
            clear hS hR2
            go_wp2
            go_end0
            exact ⟨rfl, hR3.red r0 false (by simp [hR0]), hK4.setCell _ _ _ (hS2.out ▸ .inr (by simp [hR0]))⟩
        · rw [if_neg hwe] at hs
          simp only [Option.bind_eq_some_iff] at hs
          obtain ⟨⟨r1, H1'⟩, hq1, hs⟩ := hs
          obtain ⟨hpg, ⟨r2, H2⟩, hq, hfin⟩ := settles2H_some hs
          have hgp : ¬ g = x1 := fun e => hpg e.symm
          obtain ⟨X', hX'⟩ := Option.isSome_iff_exists.1 (show (H1' x1).isSome = true by rw [turnH_dom hq1]; simp [hX])
          obtain ⟨G', hG'⟩ := Option.isSome_iff_exists.1 (show (H1' g).isSome = true by rw [turnH_dom hq1]; simp [hG])
          have hwe' : wx = !s := by revert hwe; cases wx <;> cases s <;> simp
          subst hwe'
          clear hwe
          cases s
          all_goals
            simp only [Bool.not_false, Bool.not_true, Nd.kid, bi] at *
            go_wp2_with fail
            refine (isRed_any _ H1 hR1.h _ _ hr).mono ?_
            rintro e w1 ⟨rfl, rfl⟩
            go_wp2_with fail
            refine hw.mono ?_
            rintro e w1 ⟨rfl, rfl⟩
            go_wp2_with fail
            refine (isRed_any _ H1 hR1.h _ _ hur).mono ?_
            rintro e w1 ⟨rfl, rfl⟩
            go_wp2_with fail
            refine hv.mono ?_
            rintro e w1 ⟨rfl, rfl⟩
            go_wp2_with fail
            refine (turn_any _ tb mb _ _ _ _ hR1 p _ hq1).mono ?_
            rintro e w1 ⟨rfl, hR2a, hK2a⟩
            have x6 := (hR2a.h x1 X' hX').c6
            have xf := (hR2a.h x1 X' hX').fz
            have g6' := (hR2a.h g G' hG').c6
            have gf' := (hR2a.h g G' hG').fz
            go_wp2_with fail
            have hR2 := (hR2a.red x1 false (by simp [hX'])).red g true (by simp [upd_dom, hG'])
            refine (turn_any _ tb mb _ _ _ _ hR2 g _ hq).mono ?_
            rintro e w2 ⟨rfl, hR3, hK3⟩
            obtain ⟨r0, R0, hr2, hR0, rfl, rfl⟩ := finH_some hfin
            have t0 := hR3.t.c0
            have r6 := (hR3.h r0 R0 hR0).c6
            have rf := (hR3.h r0 R0 hR0).fz
            simp only [hr2, adr_some] at t0
            rw [hr2] at hR3
            clear hr2
            have hS1 : TS tb H1' = TS tb H := (TS.of_dom (turnH_dom hq1)).trans hT.out
            have hS : TS tb H2 = TS tb H1' := (TS.of_dom (turnH_dom hq)).trans (TS.of_dom (fun k => by simp [upd_dom]))
            have hS2 := Lib.hid (hS.trans hS1)
            rw [hT.out] at hK2a
            simp only [TS.of_dom (fun k => upd_dom _ _ k _)] at hK3
            rw [hS1] at hK3
            have hK4 := (((hK1.trans hK2a).setCell x1 6 (.bool false) (hS1 ▸ .inr (by simp [hX']))).setCell g 6 (.bool true) (hS1 ▸ .inr (by simp [hG']))).trans hK3
            clear hS hS1 hR2
            go_wp2
            go_end0
            exact ⟨rfl, hR3.red r0 false (by simp [hR0]), hK4.setCell _ _ _ (hS2.out ▸ .inr (by simp [hR0]))⟩

end Go.Proofs.Ytimhbnlgambcaaa
