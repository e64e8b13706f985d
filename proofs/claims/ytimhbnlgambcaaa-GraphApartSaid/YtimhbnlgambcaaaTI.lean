/- The walk of Remove. -/
import Derived.Test.YtimhbnlgambcaaaTH
namespace Go.Proofs.Ytimhbnlgambcaaa
open Go.RowKit

def swapF (F : Hd → Option Nat) (h : Hd) (b : Nat) : Option (Int × Int) → Hd → Option Nat
  | .none => fdel F h
  | some (s, g) => fput (fdel F h) ⟨s, g⟩ b

theorem lowH_some : ∀ {k : Nat} {H : Hp} {x y : Nat}, lowH k H x = some y → (H y).isSome = true
  | 0, _, _, _, h => by cases h
  | k + 1, H, x, y, h => by
    simp only [lowH, Option.bind_eq_some_iff] at h
    obtain ⟨Y, hY, h⟩ := h
    split at h
    · cases h; simp [hY]
    · exact lowH_some h

theorem swapH_dom {k : Nat} {H H' : Hp} {x y : Nat} {sw : Option (Int × Int)} (h : swapH k H x = some (H', y, sw)) (j : Nat) : (H' j).isSome = (H j).isSome := by
  simp only [swapH, Option.bind_eq_some_iff] at h
  obtain ⟨X, hX, h⟩ := h
  split at h
  · simp only [Option.bind_eq_some_iff] at h
    obtain ⟨y', hy, Y, hY, h⟩ := h
    by_cases e : y' = x
    · simp [e] at h
    · rw [if_neg e] at h
      cases h
      rw [upd_dom, upd_dom]
  · cases h; rfl

theorem lessH_dom : ∀ {k : Nat} {H H' : Hp} {p : Option Nat}, lessH k H p = some H' → ∀ j, (H' j).isSome = (H j).isSome
  | k, H, H', .none, h, j => by
    have : lessH k H .none = some H := by cases k <;> rfl
    rw [this] at h; cases h; rfl
  | 0, _, _, some _, h, _ => by cases h
  | k + 1, H, H', some p, h, j => by
    simp only [lessH, Option.bind_eq_some_iff] at h
    obtain ⟨P, hP, h⟩ := h
    rw [lessH_dom h, upd_dom]

theorem TR.setH {w : World} {tb mb : Nat} {root : Option Nat} {H : Hp} (h : TR w tb mb root H) (b : Nat) (s g : Int) (hs : (H b).isSome = true) :
    TR ((w.setCell ⟨b, 0, .none⟩ (.int .i64 s)).setCell ⟨b, 1, .none⟩ (.int .u64 g)) tb mb root (upd H b (·.setH s g)) := by
  have h1 := h.set b 0 (.int .i64 s) (fun x => { x with s := s }) hs (fun _ _ => rfl)
  have h2 := h1.set b 1 (.int .u64 g) (fun x => { x with g := g }) (by rw [upd_dom]; exact hs) (fun _ _ => rfl)
  have e : upd (upd H b (fun x => { x with s := s })) b (fun x => { x with g := g }) = upd H b (·.setH s g) := by
    funext k
    unfold upd
    by_cases e : k = b
    · simp only [if_pos e]; cases H k <;> rfl
    · simp only [if_neg e]
  rw [e] at h2
  exact h2

set_option maxRecDepth 100000 in
set_option maxHeartbeats 1000000 in
theorem remove_no (w : World) (tb mb n : Nat) (root : Option Nat) (H : Hp) (F : Hd → Option Nat) (hT : TW w tb mb n root H F) (h : Hd) (hk : h.ok) (hF : F h = .none) :
    Calls Try.prog 12 #[.pointer (some ⟨tb, 0, .none⟩), .agg #[.int .i64 h.s, .int .u64 h.g]] w fun e w' => e = .returned (.tuple #[.int .i64 0, .bool false]) ∧ TW w' tb mb n root H F ∧ Kp (fun _ => False) w w' := by
  have hT1 : TW (w.alloc (.cells #[.int .i64 h.s, .int .u64 h.g] 34)) tb mb n root H F := ⟨hT.r.alloc _, hT.m.alloc _⟩
  go_enter Try.func12, Try.ntmps12
  go_wp2_with fail
  refine (index_no _ tb mb n root H F hT1 h hk hF).mono ?_
  rintro e w1 ⟨rfl, hT2, hK2⟩
  go_wp2_with fail
  go_ret2
  exact ⟨rfl, hT2, ((Kp.refl _ _).alloc _).trans hK2⟩

set_option maxRecDepth 100000 in
set_option maxHeartbeats 4000000 in
theorem remove_ok (w : World) (tb mb n k : Nat) (root root' : Option Nat) (H H1 H' : Hp) (F : Hd → Option Nat) (hT : TW w tb mb n root H F) (h : Hd) (hk : h.ok) (b : Nat) (hF : F h = some b) (X : Nd) (hX : H b = some X)
    (a r : Int) (ha : sizeH H X.l = some a) (hr : idxH k H b a = some r) (x : Nat) (sw : Option (Int × Int)) (hokn : ∀ s g, sw = some (s, g) → (Hd.mk s g).ok) (hsw : swapH k H b = some (H1, x, sw)) (hcut : cutH k root H1 x = some (root', H')) :
    Calls Try.prog 12 #[.pointer (some ⟨tb, 0, .none⟩), .agg #[.int .i64 h.s, .int .u64 h.g]] w fun e w' => e = .returned (.tuple #[.int .i64 r, .bool true]) ∧ TW w' tb mb (n + 1) root' H' (swapF F h b sw) ∧ Kp (TSM tb mb H) w w' := by
  have hT1 : TW (w.alloc (.cells #[.int .i64 h.s, .int .u64 h.g] 34)) tb mb n root H F := ⟨hT.r.alloc _, hT.m.alloc _⟩
  have hc := (MapKept.heap_alloc w (.cells #[.int .i64 h.s, .int .u64 h.g] 34)).1
  go_enter Try.func12, Try.ntmps12
  go_wp2_with fail
  refine (index_at _ tb mb n k root H F hT1 h hk b hF X hX a r ha hr).mono ?_
  rintro e w1 ⟨rfl, hT2, hK2⟩
  have hc1 := (hK2.block w.heap.size (by simp) (fun e => e)).trans hc
  have p0 : w1.cell? ⟨w.heap.size, 0, .none⟩ = some (.int .i64 h.s) := by simp [World.cell?, hc1]
  have p1 : w1.cell? ⟨w.heap.size, 1, .none⟩ = some (.int .u64 h.g) := by simp [World.cell?, hc1]
  have hlk := fun j => hlook w1 mb n F hT2.m h hk (some b) hF j
  simp only [adr_some] at hlk
  have t1 := hT2.r.t.c1
  have hK3 : Kp (TSM tb mb H) w w1 := (((Kp.refl _ _).alloc _).trans hK2).mono (fun _ _ h => h.elim)
  clear hT1 hc hK2 hc1 ha hr hT
  go_wp2_with fail
  go_quiet (fail)
  have hT3 : TW (w1.drewN nq) tb mb n root H F := ⟨hT2.r.drewN nq, hT2.m.drewN nq⟩
  have hK4 := hK3.drewN nq
  have q0 : (w1.drewN nq).cell? ⟨w.heap.size, 0, .none⟩ = some (.int .i64 h.s) := p0
  have q1 : (w1.drewN nq).cell? ⟨w.heap.size, 1, .none⟩ = some (.int .u64 h.g) := p1
  clear hlk p0 p1 t1 hT2 hK3
  generalize w1.drewN nq = W at hT3 hK4 q0 q1 ⊢
  have t1 := hT3.r.t.c1
  have hmb := hT3.hmb
  have htb := hT3.tb
  go_upto_region 5 with (fail)
  go_still_tail 5, (by kernel_rfl)
  refine wpList_delete_t rfl _ _ rfl rfl hT3.m.drew h hk rfl ?_
  intro w3 hM3 ho
  go_step
  go_step
  go_step
  go_step
  have hR3 := hT3.r.drew.only ho htb hmb
  have hK5 := hK4.drew.trans (ho.kp (.inl rfl))
  clear ho q0 q1 t1 hK4 hT3
  have b0 := (hR3.h b X hX).c0
  have b1 := (hR3.h b X hX).c1
  have b2 := (hR3.h b X hX).c2
  have b3 := (hR3.h b X hX).c3
  have bf := (hR3.h b X hX).fz
  simp only [Act.put]
  go_cut [8] (fun v wc => v = .pointer (some ⟨x, 0, .none⟩) ∧ TR wc tb mb root H1 ∧ MapT wc mb (n + 1) (swapF F h b sw) ∧ Kp (TSM tb mb H) w wc)
  case first =>
    simp only [swapH, hX, Option.bind_some] at hsw
    obtain ⟨xl, hxl⟩ : ∃ p, p = X.l := ⟨_, rfl⟩
    obtain ⟨xr, hxr⟩ : ∃ p, p = X.r := ⟨_, rfl⟩
    rw [← hxl] at b2 hsw
    rw [← hxr] at b3 hsw
    clear hxl hxr
    cases xl with
    | none =>
      cases hsw
      simp only [adr_none] at b2
      go_wp2_with fail
      go_meet
      case rel => exact ⟨rfl, hR3, hM3.mono (Nat.le_succ _), hK5⟩
    | some l =>
      cases xr with
      | none =>
        cases hsw
        simp only [adr_none, adr_some] at b2 b3
        go_wp2_with fail
        go_meet
        case rel => exact ⟨rfl, hR3, hM3.mono (Nat.le_succ _), hK5⟩
      | some rr =>
        simp only [Option.bind_eq_some_iff] at hsw
        obtain ⟨y, hlow, Y, hY, hsw⟩ := hsw
        by_cases hyx : y = b
        · simp [hyx] at hsw
        rw [if_neg hyx] at hsw
        cases hsw
        simp only [adr_some] at b2 b3
        go_wp2_with fail
        go_loopg [9] k (fun m v wr => ∃ y1, v = .pointer (some ⟨y1, 0, .none⟩) ∧ lowH m H y1 = some x ∧ w3 = wr)
        case atStart => exact ⟨rr, rfl, hlow, rfl⟩
        case round =>
          obtain ⟨y1, rfl, hl, rfl⟩ := hrel
          cases gk with
          | zero => cases hl
          | succ m =>
          simp only [lowH, Option.bind_eq_some_iff] at hl
          obtain ⟨Y1, hY1, hl⟩ := hl
          have y2 := (hR3.h y1 Y1 hY1).c2
          obtain ⟨yl, hyl⟩ : ∃ p, p = Y1.l := ⟨_, rfl⟩
          rw [← hyl] at y2 hl
          clear hyl
          cases yl with
          | some c =>
            simp only [adr_some] at y2
            go_wp2_with fail
            go_roundg m
            case measure => omega
            case rel => exact ⟨c, rfl, hl, rfl⟩
          | none =>
            cases hl
            simp only [adr_none] at y2
            have y0 := (hR3.h _ Y hY).c0
            have y1 := (hR3.h _ Y hY).c1
            have yf := (hR3.h _ Y hY).fz
            have hyx' : ¬ b = x := fun e => hyx e.symm
            go_wp2_with fail
            go_region
            have hY' : (upd H b (·.setH Y.s Y.g) x).isSome = true := by rw [upd_dom]; simp [hY]
            have hR4 := ((hR3.setH b Y.s Y.g (by simp [hX])).setH x X.s X.g hY').drew
            have sb : TSM tb mb H b := .inr (.inr (by simp [hX]))
            have sx : TSM tb mb H x := .inr (.inr (by simp [hY]))
            have hK6 := ((((hK5.setCell b 0 (.int .i64 Y.s) sb).setCell b 1 (.int .u64 Y.g) sb).setCell x 0 (.int .i64 X.s) sx).setCell x 1 (.int .u64 X.g) sx).drew
            have nb : b ≠ mb := hM3.ne (hR3.h b X hX)
            have nx : x ≠ mb := hM3.ne (hR3.h x Y hY)
            have hM4 := ((((hM3.setCell b 0 (.int .i64 Y.s) nb).setCell b 1 (.int .u64 Y.g) nb).setCell x 0 (.int .i64 X.s) nx).setCell x 1 (.int .u64 X.g) nx).drew
            have hXn : upd (upd H b (·.setH Y.s Y.g)) x (·.setH X.s X.g) b = some (X.setH Y.s Y.g) := by
              rw [upd_other _ _ _ _ hyx', upd_same, hX]; rfl
            generalize ((((w3.setCell ⟨b, 0, .none⟩ (.int .i64 Y.s)).setCell ⟨b, 1, .none⟩ (.int .u64 Y.g)).setCell ⟨x, 0, .none⟩ (.int .i64 X.s)).setCell ⟨x, 1, .none⟩ (.int .u64 X.g)).drew = W2 at hR4 hK6 hM4 ⊢
            clear b0 b1 b2 b3 bf y0 y1 yf y2 hR3 hM3 hK5 hY' sb sx nb nx hyx hyx'
            have b0 := (hR4.h b _ hXn).c0
            have b1 := (hR4.h b _ hXn).c1
            simp only [Nd.setH] at b0 b1
            have t1 := hR4.t.c1
            have hmb2 : upd (upd H b (·.setH Y.s Y.g)) x (·.setH X.s X.g) mb = .none := by
              rw [← Option.not_isSome_iff_eq_none, upd_dom, upd_dom, hmb]; simp
            go_wp2_with fail
            go_still_tail 9, (by kernel_rfl)
            go_wp2_with (at_mapUpdate; refine wpList_store_t rfl _ _ _ rfl rfl hM4.drew ⟨Y.s, Y.g⟩ (hokn _ _ rfl) b rfl rfl ?_; intro w5 hM5 ho)
            go_meet
            case rel => exact ⟨rfl, hR4.drew.only ho htb hmb2, hM5, hK6.drew.trans (ho.kp (.inl rfl))⟩
  case rest =>
    clear hR3 hM3 hK5 b0 b1 b2 b3 bf hX hokn hF
    obtain ⟨rfl, hR4, hM4, hK4⟩ := hcut
    simp only [cutH, Option.bind_eq_some_iff] at hcut
    obtain ⟨X0, hX0, H2, hless, X1, hX1, s, hs, ⟨r1, H3⟩, hhang, hfin⟩ := hcut
    have hD1 : TS tb H1 = TS tb H := TS.of_dom (swapH_dom hsw)
    have hD := Lib.hid hD1
    have x4 := (hR4.h x X0 hX0).c4
    clear hD1 hsw hmb htb
    go_wp2_with fail
    go_loopg [10] k (fun m v wr => ∃ p Hc, v = .pointer (adr p) ∧ lessH m Hc p = some H2 ∧ TR wr tb mb root Hc ∧ MapT wr mb (n + 1) (swapF F h b sw) ∧ TS tb Hc = TS tb H ∧ Kp (TSM tb mb H) w wr)
    case atStart => exact ⟨X0.up, H1, rfl, hless, hR4, hM4, hD.out, hK4⟩
    case round =>
      obtain ⟨p, Hc, rfl, hl, hR5, hM5, hS5, hK5⟩ := hrel
      have hS := Lib.hid hS5
      clear hS5 hR4 hM4 hK4 x4 hless hX0 hD
      cases p with
      | some p =>
        cases gk with
        | zero => cases hl
        | succ m =>
        simp only [lessH, Option.bind_eq_some_iff] at hl
        obtain ⟨P, hP, hl⟩ := hl
        have p4 := (hR5.h p P hP).c4
        have p5 := (hR5.h p P hP).c5
        have pf := (hR5.h p P hP).fz
        have hR6 := hR5.n p (wrap64 (P.n - 1)) (by simp [hP])
        have hM6 := hM5.setCell p 5 (.int .i64 (wrap64 (P.n - 1))) (hM5.ne (hR5.h p P hP))
        have sp : TS tb H p := hS.out ▸ .inr (by simp [hP])
        have hK6 := hK5.setCell p 5 (.int .i64 (wrap64 (P.n - 1))) (.inr sp)
        clear sp
        simp only [adr_some]
        go_wp2_with fail
        go_roundg m
        case measure => omega
        case rel => exact ⟨P.up, _, rfl, hl, hR6, hM6, (TS.of_dom (fun j => upd_dom _ _ j _)).trans hS.out, hK6⟩
      | none =>
        have hl2 : Hc = H2 := by
          have e : lessH gk Hc .none = some Hc := by cases gk <;> rfl
          rw [e] at hl
          exact Option.some.inj hl
        subst hl2
        clear hl
        simp only [adr_none]
        have x2 := (hR5.h x X1 hX1).c2
        have x3 := (hR5.h x X1 hX1).c3
        have x4 := (hR5.h x X1 hX1).c4
        have hw := fun j => which_any (wr.drewN j) Hc (hR5.h.drewN j) x s hs
        have hnmb : ¬ TS tb H mb := by
          rw [← hS.out]
          exact (TW.mk hR5 hM5).mb
        obtain ⟨xl, hxl⟩ : ∃ q, q = X1.l := ⟨_, rfl⟩
        obtain ⟨xr, hxr⟩ : ∃ q, q = X1.r := ⟨_, rfl⟩
        rw [← hxl] at x2 hfin hhang
        rw [← hxr] at x3 hfin hhang
        obtain ⟨up, hup⟩ : ∃ q, q = X1.up := ⟨_, rfl⟩
        rw [← hup] at x4 hfin
        clear hxl hxr hup
        cases xl with
        | some l =>
          simp only [Option.bind_eq_some_iff] at hfin
          obtain ⟨C, hC, hfin⟩ := hfin
          cases hfin
          simp only [adr_some] at x2
          go_wp2_with fail
          go_quiet ((refine Calls.quiet_of_same (calls_same (hw _))))
          go_wp2_with fail
          refine (hang_any (wr.drewN nq) tb mb root _ Hc H3 (hR5.drewN nq) x (some l) hhang).mono ?_
          rintro e w7 ⟨rfl, hR7, hK7⟩
          rw [hS.out] at hK7
          have hM7 := (hM5.drewN nq).kp hK7 hnmb
          have hK8 := (hK5.drewN nq).trans (hK7.mono (fun _ _ h => .inr h))
          have c6 := (hR7.h _ C hC).c6
          have cf := (hR7.h _ C hC).fz
          go_wp2_with fail
          go_ret2
          exact ⟨rfl, ⟨hR7.red _ false (by simp [hC]), hM7.setCell _ _ _ (hM7.ne (hR7.h _ C hC))⟩, hK8.setCell _ _ _ (.inr (by rw [← hS.out, ← TS.of_dom (hangH_dom hhang)]; exact Or.inr (Option.isSome_iff_exists.2 ⟨_, hC⟩)))⟩
        | none =>
          simp only [adr_none] at x2
          cases xr with
          | some rr =>
            simp only [Option.bind_eq_some_iff] at hfin
            obtain ⟨C, hC, hfin⟩ := hfin
            cases hfin
            simp only [adr_some] at x3
            go_wp2_with fail
            go_quiet ((refine Calls.quiet_of_same (calls_same (hw _))))
            go_wp2_with fail
            refine (hang_any (wr.drewN nq) tb mb root _ Hc H3 (hR5.drewN nq) x (some rr) hhang).mono ?_
            rintro e w7 ⟨rfl, hR7, hK7⟩
            rw [hS.out] at hK7
            have hM7 := (hM5.drewN nq).kp hK7 hnmb
            have hK8 := (hK5.drewN nq).trans (hK7.mono (fun _ _ h => .inr h))
            have c6 := (hR7.h _ C hC).c6
            have cf := (hR7.h _ C hC).fz
            go_wp2_with fail
            go_ret2
            exact ⟨rfl, ⟨hR7.red _ false (by simp [hC]), hM7.setCell _ _ _ (hM7.ne (hR7.h _ C hC))⟩, hK8.setCell _ _ _ (.inr (by rw [← hS.out, ← TS.of_dom (hangH_dom hhang)]; exact Or.inr (Option.isSome_iff_exists.2 ⟨_, hC⟩)))⟩
          | none =>
            simp only [Option.bind_eq_some_iff] at hfin
            obtain ⟨X2, hX2, hfin⟩ := hfin
            simp only [adr_none] at x3
            go_wp2_with fail
            go_quiet ((refine Calls.quiet_of_same (calls_same (hw _))))
            go_wp2_with fail
            refine (hang_any (wr.drewN nq) tb mb root _ Hc H3 (hR5.drewN nq) x .none hhang).mono ?_
            rintro e w7 ⟨rfl, hR7, hK7⟩
            rw [hS.out] at hK7
            have hM7 := (hM5.drewN nq).kp hK7 hnmb
            have hK8 := (hK5.drewN nq).trans (hK7.mono (fun _ _ h => .inr h))
            have c6 := (hR7.h x X2 hX2).c6
            obtain ⟨rd, hrd⟩ : ∃ q, q = X2.red := ⟨_, rfl⟩
            rw [← hrd] at c6 hfin
            clear hrd
            cases rd with
            | true =>
              cases hfin
              go_wp2_with fail
              go_ret2
              exact ⟨rfl, ⟨hR7, hM7⟩, hK8⟩
            | false =>
              simp only [if_true] at hfin
              cases up with
              | none =>
                cases hfin
                simp only [adr_none] at x4 ⊢
                go_wp2_with fail
                go_ret2
                exact ⟨rfl, ⟨hR7, hM7⟩, hK8⟩
              | some u =>
                simp only at hfin
                simp only [adr_some] at x4 ⊢
                go_wp2_with fail
                refine (fills_any _ tb mb k _ root' H3 H' hR7 (some u) s hfin).mono ?_
                rintro e w8 ⟨rfl, hR9, hK9⟩
                rw [TS.of_dom (hangH_dom hhang), hS.out] at hK9
                go_wp2_with fail
                go_ret2
                exact ⟨rfl, ⟨hR9, hM7.kp hK9 hnmb⟩, hK8.trans (hK9.mono (fun _ _ h => .inr h))⟩

end Go.Proofs.Ytimhbnlgambcaaa
