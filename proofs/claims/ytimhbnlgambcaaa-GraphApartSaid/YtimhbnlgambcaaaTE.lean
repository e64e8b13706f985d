/- The walk of fills. -/
import Derived.Test.YtimhbnlgambcaaaTD
import Derived.Deep.DeepCutAuto
namespace Go.Proofs.Ytimhbnlgambcaaa
open Go.RowKit

set_option maxRecDepth 100000 in
set_option maxHeartbeats 4000000 in
theorem fills_any (w : World) (tb mb : Nat) (n : Nat) (root root' : Option Nat) (H H' : Hp) (hR : TR w tb mb root H) (p : Option Nat) (s : Bool) (h : fillsH n root H p s = some (root', H')) :
    Calls Try.prog 46 #[.pointer (some ⟨tb, 0, .none⟩), .pointer (adr p), .int .i64 (bi s)] w fun e w' => e = .returned (.tuple #[]) ∧ TR w' tb mb root' H' ∧ Kp (TS tb H) w w' := by
  have wr1 : IntKind.i64.wrap 1 = 1 := by decide
  have wr0 : IntKind.i64.wrap 0 = 0 := by decide
  go_enter Try.func46, Try.ntmps46
  go_wp2_with fail
  go_loopg [1, 2] n (fun k v v2 wr => ∃ root1 H1 p1 s1, v = .pointer (adr p1) ∧ v2 = .int .i64 (bi s1) ∧ fillsH k root1 H1 p1 s1 = some (root', H') ∧ TR wr tb mb root1 H1 ∧ TS tb H1 = TS tb H ∧ Kp (TS tb H) w wr)
  case atStart => exact ⟨root, H, p, s, rfl, rfl, h, hR, rfl, Kp.refl _ _⟩
  case round =>
    obtain ⟨root1, H1, p1, s1, rfl, rfl, hs, hR1, hT1, hK1⟩ := hrel
    have hT := Lib.hid hT1
    clear hT1 h hR
    cases gk with
    | zero => cases hs
    | succ gk =>
    cases p1 with
    | none =>
      cases hs
      go_wp2
      go_end0
      exact ⟨rfl, hR1, hK1⟩
    | some p =>
      simp only [fillsH, Option.bind_eq_some_iff] at hs
      obtain ⟨P, hP, b, hb, B, hB, ⟨r1, H2, b1⟩, hz, z, h2, hs⟩ := hs
      have p2 := (hR1.h p P hP).c2
      have p3 := (hR1.h p P hP).c3
      have p6 := (hR1.h p P hP).c6
      have pf := (hR1.h p P hP).fz
      have b6 := (hR1.h b B hB).c6
      have bf := (hR1.h b B hB).fz
      simp only [adr]
      obtain ⟨br, hbr⟩ : ∃ br, br = B.red := ⟨_, rfl⟩
      rw [← hbr] at b6 hz
      clear hbr
      cases s1
      all_goals
        simp only [Bool.not_false, Bool.not_true, Nd.kid, bi] at *
        simp only [hb, adr_some] at p2 p3
        clear hb
        go_upto_if 21 with fail
        go_cut [6] (fun v wc => v = .pointer (some ⟨b1, 0, .none⟩) ∧ TR wc tb mb r1 H2 ∧ TS tb H2 = TS tb H ∧ Kp (TS tb H) w wc)
        case first =>
          cases br with
          | true =>
            rw [if_pos rfl] at hz
            by_cases hbp : b = p
            · simp [hbp] at hz
            simp only [if_neg hbp, Option.bind_eq_some_iff] at hz
            obtain ⟨⟨r2, H2'⟩, hq, P1, hP1, b2, hb2, hz⟩ := hz
            cases hz
            have hpb : ¬ p = b := fun e => hbp e.symm
            have hR2 := (hR1.red b false (by simp [hB])).red p true (by simp [upd_dom, hP])
            go_wp2_with fail
            refine (turn_any _ tb mb _ _ _ _ hR2 p _ hq).mono ?_
            rintro e w2 ⟨rfl, hR3, hK3⟩
            have P2 := (hR3.h p P1 hP1).c2
            have P3 := (hR3.h p P1 hP1).c3
            simp only [hb2, adr_some] at P2 P3
            go_wp2_with fail
            go_meet
            case rel =>
              have hS1 : TS tb H2' = TS tb H1 := (TS.of_dom (turnH_dom hq)).trans (TS.of_dom (fun k => by simp [upd_dom]))
              simp only [TS.of_dom (fun k => upd_dom _ _ k _)] at hK3
              rw [hT.out] at hK3
              exact ⟨rfl, hR3, hS1.trans hT.out, ((hK1.setCell b 6 (.bool false) (hT.out ▸ .inr (by simp [hB]))).setCell p 6 (.bool true) (hT.out ▸ .inr (by simp [hP]))).trans hK3⟩
          | false =>
            cases hz
            go_wp2_with fail
            go_meet
            case rel => exact ⟨rfl, hR1, hT.out, hK1⟩
        case rest =>
          clear hR1 hK1 hP hB hT p2 p3 p6 pf b6 bf
          obtain ⟨rfl, hR2, hS, hK2⟩ := hcut
          have hT := Lib.hid hS
          clear hS
          simp only [fills2H, Option.bind_eq_some_iff] at h2
          obtain ⟨P1, hP1, B1, hB1, fr, hfr, h2⟩ := h2
          have p4 := (hR2.h p P1 hP1).c4
          have p6 := (hR2.h p P1 hP1).c6
          have pf := (hR2.h p P1 hP1).fz
          have b2 := (hR2.h b1 B1 hB1).c2
          have b3 := (hR2.h b1 B1 hB1).c3
          have b6 := (hR2.h b1 B1 hB1).c6
          have bf := (hR2.h b1 B1 hB1).fz
          cases fr with
          | true =>
            simp only [if_true, Option.bind_eq_some_iff] at h2
            obtain ⟨f, hf, h2⟩ := h2
            by_cases hd : b1 = p ∨ f = b1 ∨ f = p
            · simp [hd] at h2
            simp only [if_neg hd, Option.bind_eq_some_iff] at h2
            simp only [not_or] at hd
            obtain ⟨d1, d2, d3⟩ := hd
            obtain ⟨⟨r3, H3⟩, hq, h2⟩ := h2
            cases h2
            cases hs
            simp only [Bool.not_false, Bool.not_true, Nd.kid] at hf hfr
            rw [hf] at hfr
            simp only [hf, adr_some] at b2 b3
            clear hf
            obtain ⟨F, hF⟩ : ∃ F, H2 f = some F := by
              simp only [redH, Option.map_eq_some_iff] at hfr
              obtain ⟨U, hU, _⟩ := hfr
              exact ⟨U, hU⟩
            have f6 := (hR2.h f F hF).c6
            have ff := (hR2.h f F hF).fz
            have hR3 := ((hR2.red b1 P1.red (by simp [hB1])).red p false (by simp [upd_dom, hP1])).red f false (by simp [upd_dom, hF])
            have tb1 : TS tb H b1 := hT.out ▸ .inr (by simp [hB1])
            have tp : TS tb H p := hT.out ▸ .inr (by simp [hP1])
            have tf : TS tb H f := hT.out ▸ .inr (by simp [hF])
            have hK3 := ((hK2.setCell b1 6 (.bool P1.red) tb1).setCell p 6 (.bool false) tp).setCell f 6 (.bool false) tf
            go_wp2_with fail
            go_quiet (fail)
            go_wp2_with fail
            refine (isRed_any _ H2 (hR2.h.drewN nq) _ _ hfr).mono ?_
            rintro e w3 ⟨rfl, rfl⟩
            go_wp2_with fail
            refine (turn_any _ tb mb _ _ _ _ (hR3.drewN nq) p _ hq).mono ?_
            rintro e w4 ⟨rfl, hR4, hK4⟩
            go_wp2_with fail
            refine bodyPost_ret (results_none rfl _ _ _) rfl ?_
            simp only [TS.of_dom (fun k => upd_dom _ _ k _)] at hK4
            rw [hT.out] at hK4
            exact ⟨rfl, hR4, (hK3.drewN nq).trans hK4⟩
          | false =>
            simp only [Bool.false_eq_true, if_false, Option.bind_eq_some_iff] at h2
            obtain ⟨nr, hnr, h2⟩ := h2
            cases nr with
            | true =>
              simp only [if_true, Option.bind_eq_some_iff] at h2
              obtain ⟨nn, hn, h2⟩ := h2
              by_cases hd : nn = b1
              · simp [hd] at h2
              simp only [if_neg hd, Option.bind_eq_some_iff] at h2
              obtain ⟨⟨r3, H3⟩, hq, P2, hP2, bb, hbb, B2, hB2, f2, hf2, F2, hF2, h2⟩ := h2
              by_cases hd2 : bb = p ∨ f2 = bb ∨ f2 = p
              · simp [hd2] at h2
              simp only [if_neg hd2, Option.bind_eq_some_iff] at h2
              simp only [not_or] at hd2
              obtain ⟨d1, d2, d3⟩ := hd2
              obtain ⟨⟨r4, H4⟩, hq2, h2⟩ := h2
              cases h2
              cases hs
              simp only [Bool.not_false, Bool.not_true, Nd.kid] at hn hnr hfr hbb hf2
              rw [hn] at hnr
              simp only [hn, adr_some] at b2 b3
              clear hn
              obtain ⟨N, hN⟩ : ∃ F, H2 nn = some F := by
                simp only [redH, Option.map_eq_some_iff] at hnr
                obtain ⟨U, hU, _⟩ := hnr
                exact ⟨U, hU⟩
              have n6 := (hR2.h nn N hN).c6
              have nf := (hR2.h nn N hN).fz
              have hd' : ¬ b1 = nn := fun e => hd e.symm
              have hR3 := (hR2.red nn false (by simp [hN])).red b1 true (by simp [upd_dom, hB1])
              have tb1 : TS tb H b1 := hT.out ▸ .inr (by simp [hB1])
              have tn : TS tb H nn := hT.out ▸ .inr (by simp [hN])
              have hK3 := (hK2.setCell nn 6 (.bool false) tn).setCell b1 6 (.bool true) tb1
              have hS3 : TS tb H3 = TS tb H := (TS.of_dom (turnH_dom hq)).trans ((TS.of_dom (fun k => by simp [upd_dom])).trans hT.out)
              have hT3 := Lib.hid hS3
              clear hS3
              go_wp2_with fail
              go_quiet (fail)
              go_wp2_with fail
              refine (isRed_any _ H2 (hR2.h.drewN nq) _ _ hfr).mono ?_
              rintro e w3 ⟨rfl, rfl⟩
              go_wp2_with fail
              refine (isRed_any _ H2 (hR2.h.drewN nq) _ _ hnr).mono ?_
              rintro e w3 ⟨rfl, rfl⟩
              go_wp2_with fail
              refine (turn_any _ tb mb _ _ _ _ (hR3.drewN nq) b1 _ hq).mono ?_
              rintro e w4 ⟨rfl, hR4, hK4⟩
              have q2 := (hR4.h p P2 hP2).c2
              have q3 := (hR4.h p P2 hP2).c3
              have q6 := (hR4.h p P2 hP2).c6
              have qf := (hR4.h p P2 hP2).fz
              have s2 := (hR4.h bb B2 hB2).c2
              have s3 := (hR4.h bb B2 hB2).c3
              have s6 := (hR4.h bb B2 hB2).c6
              have sf := (hR4.h bb B2 hB2).fz
              have f6 := (hR4.h f2 F2 hF2).c6
              have ff := (hR4.h f2 F2 hF2).fz
              simp only [hbb, hf2, adr_some] at q2 q3 s2 s3
              go_wp2_with fail
              go_region
              go_wp2_with fail
              have hR5 := (((hR4.red bb P2.red (by simp [hB2])).red p false (by simp [upd_dom, hP2])).red f2 false (by simp [upd_dom, hF2])).drew
              refine (turn_any _ tb mb _ _ _ _ hR5 p _ hq2).mono ?_
              rintro e w5 ⟨rfl, hR6, hK6⟩
              go_wp2_with fail
              refine bodyPost_ret (results_none rfl _ _ _) rfl ?_
              have tp : TS tb H p := hT3.out ▸ .inr (by simp [hP2])
              have tbb : TS tb H bb := hT3.out ▸ .inr (by simp [hB2])
              have tf2 : TS tb H f2 := hT3.out ▸ .inr (by simp [hF2])
              simp only [TS.of_dom (fun k => upd_dom _ _ k _)] at hK4
              rw [hT.out] at hK4
              simp only [TS.of_dom (fun k => upd_dom _ _ k _)] at hK6
              rw [hT3.out] at hK6
              exact ⟨rfl, hR6, (((((hK3.drewN nq).trans hK4).setCell bb 6 _ tbb).setCell p 6 _ tp).setCell f2 6 _ tf2).drew.trans hK6⟩
            | false =>
              simp only [Bool.false_eq_true, if_false] at h2
              by_cases hd : b1 = p
              · simp [hd] at h2
              simp only [if_neg hd] at h2
              have hd' : ¬ p = b1 := fun e => hd e.symm
              simp only [Bool.not_false, Bool.not_true, Nd.kid] at hnr hfr
              have tb1 : TS tb H b1 := hT.out ▸ .inr (by simp [hB1])
              have tp : TS tb H p := hT.out ▸ .inr (by simp [hP1])
              obtain ⟨pr, hpr⟩ : ∃ pr, pr = P1.red := ⟨_, rfl⟩
              rw [← hpr] at p6 h2
              clear hpr
              cases pr with
              | true =>
                rw [if_pos rfl] at h2
                cases h2
                cases hs
                go_wp2_with fail
                go_quiet (fail)
                go_wp2_with fail
                refine (isRed_any _ H2 (hR2.h.drewN nq) _ _ hfr).mono ?_
                rintro e w3 ⟨rfl, rfl⟩
                go_wp2_with fail
                refine (isRed_any _ H2 (hR2.h.drewN nq) _ _ hnr).mono ?_
                rintro e w3 ⟨rfl, rfl⟩
                go_wp2_with fail
                refine bodyPost_ret (results_none rfl _ _ _) rfl ?_
                exact ⟨rfl, ((hR2.red b1 true (by simp [hB1])).red p false (by simp [upd_dom, hP1])).drewN nq, ((hK2.setCell b1 6 _ tb1).setCell p 6 _ tp).drewN nq⟩
              | false =>
                simp only [Bool.false_eq_true, if_false, Option.bind_eq_some_iff] at h2
                obtain ⟨s', hs', h2⟩ := h2
                cases h2
                go_wp2_with fail
                go_quiet (fail)
                go_wp2_with fail
                refine (isRed_any _ H2 (hR2.h.drewN nq) _ _ hfr).mono ?_
                rintro e w3 ⟨rfl, rfl⟩
                go_wp2_with fail
                refine (isRed_any _ H2 (hR2.h.drewN nq) _ _ hnr).mono ?_
                rintro e w3 ⟨rfl, rfl⟩
                go_wp2_with fail
                have hR3 := (hR2.red b1 true (by simp [hB1])).drewN nq
                refine (which_any _ _ hR3.h p s' hs').mono ?_
                rintro e w3 ⟨rfl, rfl⟩
                go_wp2_with fail
                go_roundg gk
                case measure => omega
                case rel =>
                  exact ⟨r1, _, P1.up, s', rfl, rfl, hs, hR3, by rw [← hT.out]; exact TS.of_dom (fun k => by simp [upd_dom]), (hK2.setCell b1 6 _ tb1).drewN nq⟩

end Go.Proofs.Ytimhbnlgambcaaa
