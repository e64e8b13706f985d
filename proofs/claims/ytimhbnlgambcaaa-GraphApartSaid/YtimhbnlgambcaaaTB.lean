/- The walks of hang, counts, turn. -/
import Derived.Test.YtimhbnlgambcaaaTA
namespace Go.Proofs.Ytimhbnlgambcaaa
open Go.RowKit

theorem calls_same {f : FuncId} {args : Array Value} {w : World} {v : Value} (h : Calls Try.prog f args w fun e w' => e = .returned v ∧ w = w') : Calls Try.prog f args w fun e w' => e = .returned v ∧ w' = w :=
  h.mono fun _ _ ⟨he, hw⟩ => ⟨he, hw.symm⟩

set_option maxRecDepth 100000 in
set_option maxHeartbeats 400000 in
theorem counts_walk (w : World) (tb mb : Nat) (root : Option Nat) (H : Hp) (hR : TR w tb mb root H) (x : Nat) (X : Nd) (hX : H x = some X) (a b : Int) (ha : sizeH H X.l = some a) (hb : sizeH H X.r = some b) :
    Calls Try.prog 84 #[.pointer (some ⟨x, 0, .none⟩)] w fun e w' => e = .returned (.tuple #[]) ∧ TR w' tb mb root (upd H x (·.setN (wrap64 (wrap64 (1 + a) + b)))) ∧ Kp (TS tb H) w w' := by
  have c2 := (hR.h x X hX).c2
  have c3 := (hR.h x X hX).c3
  have c5 := (hR.h x X hX).c5
  have fz := (hR.h x X hX).fz
  go_enter Try.func84, Try.ntmps84
  go_wp2_with fail
  go_still_tail 17, (by kernel_rfl)
  still_call (calls_same (size_any _ H hR.h.drew _ _ ha))
  repeat still_step
  still_call (calls_same (size_any _ H hR.h.drew _ _ hb))
  repeat still_step
  refine wpStill_nil ?_
  go_wp2
  go_end0
  exact ⟨rfl, (hR.n x _ (by simp [hX])).drew, ((Kp.refl _ _).setCell _ _ _ (.inr (by simp [hX]))).drew⟩

theorem counts_any (w : World) (tb mb : Nat) (root : Option Nat) (H H' : Hp) (hR : TR w tb mb root H) (x : Nat) (h : countsH H x = some H') :
    Calls Try.prog 84 #[.pointer (some ⟨x, 0, .none⟩)] w fun e w' => e = .returned (.tuple #[]) ∧ TR w' tb mb root H' ∧ Kp (TS tb H) w w' := by
  simp only [countsH, Option.bind_eq_some_iff, Option.some.injEq] at h
  obtain ⟨X, hX, a, ha, b, hb, rfl⟩ := h
  exact counts_walk w tb mb root H hR x X hX a b ha hb

set_option maxRecDepth 100000 in
set_option maxHeartbeats 400000 in
theorem hang_root (w : World) (tb mb : Nat) (root : Option Nat) (H : Hp) (hR : TR w tb mb root H) (old : Nat) (O : Nd) (hO : H old = some O) (hu : O.up = .none) :
    Calls Try.prog 45 #[.pointer (some ⟨tb, 0, .none⟩), .pointer (some ⟨old, 0, .none⟩), .pointer .none] w fun e w' => e = .returned (.tuple #[]) ∧ TR w' tb mb .none H ∧ Kp (TS tb H) w w' := by
  have c4 := (hR.h old O hO).c4
  have t0 := hR.t.c0
  have tf := hR.t.fz
  rw [hu] at c4; simp only [adr_none] at c4
  clear hu
  go_enter Try.func45, Try.ntmps45
  go_wp2
  go_end0
  exact ⟨rfl, hR.root' .none, (Kp.refl _ _).setCell _ _ _ (.inl rfl)⟩

set_option maxRecDepth 100000 in
set_option maxHeartbeats 400000 in
theorem hang_root1 (w : World) (tb mb : Nat) (root : Option Nat) (H : Hp) (hR : TR w tb mb root H) (old : Nat) (O : Nd) (hO : H old = some O) (hu : O.up = .none) (c : Nat) (C : Nd) (hC : H c = some C) :
    Calls Try.prog 45 #[.pointer (some ⟨tb, 0, .none⟩), .pointer (some ⟨old, 0, .none⟩), .pointer (some ⟨c, 0, .none⟩)] w fun e w' => e = .returned (.tuple #[]) ∧ TR w' tb mb (some c) (upd H c (·.setUp .none)) ∧ Kp (TS tb H) w w' := by
  have c4 := (hR.h old O hO).c4
  have d4 := (hR.h c C hC).c4
  have df := (hR.h c C hC).fz
  have t0 := hR.t.c0
  have tf := hR.t.fz
  rw [hu] at c4; simp only [adr_none] at c4
  clear hu
  go_enter Try.func45, Try.ntmps45
  go_wp2
  go_end0
  exact ⟨rfl, (hR.root' (some c)).up c .none (by simp [hC]), ((Kp.refl _ _).setCell _ _ _ (.inl rfl)).setCell _ _ _ (.inr (by simp [hC]))⟩

set_option maxRecDepth 100000 in
set_option maxHeartbeats 400000 in
theorem hang_nil (w : World) (tb mb : Nat) (root : Option Nat) (H : Hp) (hR : TR w tb mb root H) (old : Nat) (O : Nd) (hO : H old = some O) (u : Nat) (hu : O.up = some u) (U : Nd) (hU : H u = some U) (k : Bool) (hk : whichH H old = some k) :
    Calls Try.prog 45 #[.pointer (some ⟨tb, 0, .none⟩), .pointer (some ⟨old, 0, .none⟩), .pointer .none] w fun e w' => e = .returned (.tuple #[]) ∧ TR w' tb mb root (upd H u (·.setKid k .none)) ∧ Kp (TS tb H) w w' := by
  have c4 := (hR.h old O hO).c4
  have u2 := (hR.h u U hU).c2
  have u3 := (hR.h u U hU).c3
  have uf := (hR.h u U hU).fz
  have hw := which_any w.drew H hR.h.drew old k hk
  rw [hu] at c4; simp only [adr_some] at c4
  clear hu
  cases k
  all_goals
    simp only [bi] at hw
    go_enter Try.func45, Try.ntmps45
    go_wp2_with fail
    go_still_tail 10, (by kernel_rfl)
    still_call (calls_same hw)
    repeat still_step
    refine wpStill_nil ?_
    go_wp2
    go_end0
  · exact ⟨rfl, (hR.kid0 u .none (by simp [hU])).drew, ((Kp.refl _ _).setCell _ _ _ (.inr (by simp [hU]))).drew⟩
  · exact ⟨rfl, (hR.kid1 u .none (by simp [hU])).drew, ((Kp.refl _ _).setCell _ _ _ (.inr (by simp [hU]))).drew⟩

set_option maxRecDepth 100000 in
set_option maxHeartbeats 400000 in
theorem hang_some (w : World) (tb mb : Nat) (root : Option Nat) (H : Hp) (hR : TR w tb mb root H) (old : Nat) (O : Nd) (hO : H old = some O) (u : Nat) (hu : O.up = some u) (U : Nd) (hU : H u = some U) (k : Bool) (hk : whichH H old = some k) (c : Nat) (C : Nd) (hC : H c = some C) :
    Calls Try.prog 45 #[.pointer (some ⟨tb, 0, .none⟩), .pointer (some ⟨old, 0, .none⟩), .pointer (some ⟨c, 0, .none⟩)] w fun e w' => e = .returned (.tuple #[]) ∧ TR w' tb mb root (upd (upd H u (·.setKid k (some c))) c (·.setUp (some u))) ∧ Kp (TS tb H) w w' := by
  have c4 := (hR.h old O hO).c4
  have u2 := (hR.h u U hU).c2
  have u3 := (hR.h u U hU).c3
  have uf := (hR.h u U hU).fz
  have d4 := (hR.h c C hC).c4
  have df := (hR.h c C hC).fz
  have hw := which_any w.drew H hR.h.drew old k hk
  rw [hu] at c4; simp only [adr_some] at c4
  clear hu
  cases k
  all_goals
    simp only [bi] at hw
    go_enter Try.func45, Try.ntmps45
    go_wp2_with fail
    go_still_tail 10, (by kernel_rfl)
    still_call (calls_same hw)
    repeat still_step
    refine wpStill_nil ?_
    go_wp2
    go_end0
  · exact ⟨rfl, ((hR.kid0 u (some c) (by simp [hU])).up c (some u) (by rw [upd_dom]; simp [hC])).drew, (((Kp.refl _ _).setCell _ _ _ (.inr (by simp [hU]))).setCell _ _ _ (.inr (by simp [hC]))).drew⟩
  · exact ⟨rfl, ((hR.kid1 u (some c) (by simp [hU])).up c (some u) (by rw [upd_dom]; simp [hC])).drew, (((Kp.refl _ _).setCell _ _ _ (.inr (by simp [hU]))).setCell _ _ _ (.inr (by simp [hC]))).drew⟩

theorem hang_any (w : World) (tb mb : Nat) (root root' : Option Nat) (H H' : Hp) (hR : TR w tb mb root H) (old : Nat) (x : Option Nat) (h : hangH root H old x = some (root', H')) :
    Calls Try.prog 45 #[.pointer (some ⟨tb, 0, .none⟩), .pointer (some ⟨old, 0, .none⟩), .pointer (adr x)] w fun e w' => e = .returned (.tuple #[]) ∧ TR w' tb mb root' H' ∧ Kp (TS tb H) w w' := by
  simp only [hangH, Option.bind_eq_some_iff] at h
  obtain ⟨O, hO, p, hp, h⟩ := h
  cases hu : O.up with
  | none =>
    rw [hu] at hp h
    cases hp
    cases x with
    | none => cases h; exact hang_root w tb mb root H hR old O hO hu
    | some c =>
      simp only [Option.bind_eq_some_iff] at h
      obtain ⟨C, hC, h⟩ := h
      cases h
      exact hang_root1 w tb mb root H hR old O hO hu c C hC
  | some u =>
    rw [hu] at hp h
    simp only [Option.bind_eq_some_iff] at hp
    obtain ⟨k, hk, hp⟩ := hp
    cases hp
    have hU : ∃ U, H u = some U := by
      simp only [whichH, hO, Option.bind_some, hu, Option.bind_eq_some_iff] at hk
      obtain ⟨U, hU, _⟩ := hk
      exact ⟨U, hU⟩
    obtain ⟨U, hU⟩ := hU
    cases x with
    | none => cases h; exact hang_nil w tb mb root H hR old O hO u hu U hU k hk
    | some c =>
      simp only [Option.bind_eq_some_iff] at h
      obtain ⟨C, hC, h⟩ := h
      cases h
      exact hang_some w tb mb root H hR old O hO u hu U hU k hk c C hC

end Go.Proofs.Ytimhbnlgambcaaa
