/- Insert, told of trees. No program. -/
import Derived.Test.YtimhbnlgambcaaaPg
namespace Go.Proofs.Ytimhbnlgambcaaa
open Go.RowKit

theorem length_idsC : ∀ cx : Cx, cx.length ≤ (idsC cx).length
  | [] => Nat.le_refl _
  | f :: cx => by
    have := length_idsC cx
    simp [idsC]
    omega
theorem length_cx (cx : Cx) (T : TT) : cx.length ≤ (plug cx T).cnt := by
  have h := (plug_ids cx T).length_eq
  have h2 := length_idsC cx
  rw [TT.cnt_prs]
  rw [TT.ids_prs, List.length_map, List.length_append] at h
  omega

theorem wrap_in (a : Int) (h1 : -1099511627776 ≤ a) (h2 : a ≤ 1099511627776) : wrap64 a = a := by
  unfold wrap64
  omega

theorem size_upd {H : Hp} {up : Option Nat} {T : TT} (h : Holds H up T) (b : Nat) (hb : b ∉ T.ids) (f : Nd → Nd) : sizeH (upd H b f) T.ptr = some (T.cnt : Int) :=
  (h.frame (fun k hk => upd_other _ _ _ _ (fun (e : k = b) => hb (e ▸ hk)))).size

/-- Down from a node: where the i-th place is, all counted up on the way. -/
theorem descZ : ∀ (T : TT) {H : Hp} {cx : Cx} {b i k : Nat}, T.cnt ≤ k → T.ptr = some b → HoldsC H cx (some b) (T.cnt + 1) → Holds H (upC cx) T → (plug cx T).ids.Nodup → T.cnt < 1099511627776 → i ≤ T.cnt →
    ∃ H' f cx', descH k H b i = some (H', f.b, f.s) ∧ HoldsC H' (f :: cx') .none 1 ∧ plug (f :: cx') .leaf = plug cx T ∧ (preC (f :: cx')).length = (preC cx).length + i ∧ ∀ j, j ∉ (plug cx T).ids → H' j = H j := by
  intro T
  induction T with
  | leaf => intro H cx b i k _ hp; cases hp
  | node b h c l r ihl ihr =>
    intro H cx b' i k hk hp hcx hT nd small hi
    cases hp
    simp only [TT.cnt] at hk hi small hcx
    obtain ⟨k, rfl⟩ : ∃ j, k = j + 1 := ⟨k - 1, by omega⟩
    obtain ⟨hb, hl, hr⟩ := hT
    obtain ⟨n1, n2, n3⟩ := nd_frames nd
    have hbl : b ∉ l.ids ∧ b ∉ r.ids := by
      simp only [TT.ids, List.nodup_append, List.nodup_cons] at n2
      exact ⟨fun hm => n2.2.2 b hm b (by simp) rfl, n2.2.1.1⟩
    have hbc : b ∉ idsC cx := fun hm => n3 b hm (by simp [TT.ids])
    have hmem : ∀ j, j ∉ (plug cx (.node b h c l r)).ids → j ≠ b := fun j hj e => hj ((plug_ids _ _).mem_iff.2 (by simp [TT.ids, e]))
    have w1 : wrap64 (((l.cnt + r.cnt + 1 : Nat) : Int) + 1) = ((l.cnt + r.cnt + 1 + 1 : Nat) : Int) := by rw [wrap_in _ (by omega) (by omega)]; rfl
    have hs := size_upd hl b hbl.1 (·.setN ((l.cnt + r.cnt + 1 + 1 : Nat) : Int))
    have hl' : Holds (upd H b (·.setN ((l.cnt + r.cnt + 1 + 1 : Nat) : Int))) (some b) l := hl.frame (fun j hj => upd_other _ _ _ _ (fun e => hbl.1 (e ▸ hj)))
    have hr' : Holds (upd H b (·.setN ((l.cnt + r.cnt + 1 + 1 : Nat) : Int))) (some b) r := hr.frame (fun j hj => upd_other _ _ _ _ (fun e => hbl.2 (e ▸ hj)))
    have hcx' : HoldsC (upd H b (·.setN ((l.cnt + r.cnt + 1 + 1 : Nat) : Int))) cx (some b) (l.cnt + r.cnt + 1 + 1) := hcx.frame (fun j hj => upd_other _ _ _ _ (fun e => hbc (e ▸ hj)))
    have hunf : descH (k + 1) H b i = (if (i : Int) > (l.cnt : Int) then
        match r.ptr with
        | .none => some (upd H b (·.setN ((l.cnt + r.cnt + 1 + 1 : Nat) : Int)), b, true)
        | some c => descH k (upd H b (·.setN ((l.cnt + r.cnt + 1 + 1 : Nat) : Int))) c (wrap64 ((i : Int) - wrap64 ((l.cnt : Int) + 1)))
      else
        match l.ptr with
        | .none => some (upd H b (·.setN ((l.cnt + r.cnt + 1 + 1 : Nat) : Int)), b, false)
        | some c => descH k (upd H b (·.setN ((l.cnt + r.cnt + 1 + 1 : Nat) : Int))) c i) := by
      conv => lhs; unfold descH
      simp only [hb, Option.bind_some, w1, hs]
      rfl
    rw [hunf]
    have ho : ∀ j, j ∉ (plug cx (.node b h c l r)).ids → upd H b (·.setN ((l.cnt + r.cnt + 1 + 1 : Nat) : Int)) j = H j := fun j hj => upd_other _ _ _ _ (hmem j hj)
    by_cases hlt : (i : Int) > (l.cnt : Int)
    · rw [if_pos hlt]
      have hf : HoldsC (upd H b (·.setN ((l.cnt + r.cnt + 1 + 1 : Nat) : Int))) (⟨b, h, c, true, l⟩ :: cx) r.ptr (r.cnt + 1) := by
        refine ⟨?_, hl', ?_⟩
        · rw [upd_same, hb]
          simp only [Option.map_some, Nd.setN, ndF, if_true, Option.some.injEq, Nd.mk.injEq, true_and, and_true]
          omega
        · have e : r.cnt + 1 + l.cnt + 1 = l.cnt + r.cnt + 1 + 1 := by omega
          simp only [e]
          exact hcx'
      have hpl : plug (⟨b, h, c, true, l⟩ :: cx) r = plug cx (.node b h c l r) := rfl
      have hpre : (preC (⟨b, h, c, true, l⟩ :: cx)).length = (preC cx).length + l.cnt + 1 := by
        simp [preC, TT.cnt_prs]
        omega
      cases r with
      | leaf =>
        simp only [TT.cnt] at hi
        exact ⟨_, ⟨b, h, c, true, l⟩, cx, rfl, hf, hpl, by rw [hpre]; omega, ho⟩
      | node rb rh rc rl rr =>
        have hw : wrap64 ((i : Int) - wrap64 ((l.cnt : Int) + 1)) = ((i - l.cnt - 1 : Nat) : Int) := by
          rw [wrap_in ((l.cnt : Int) + 1) (by omega) (by omega), wrap_in _ (by omega) (by omega)]
          omega
        simp only [TT.ptr, hw]
        obtain ⟨H', f, cx', e1, e2, e3, e4, e5⟩ := ihr (cx := ⟨b, h, c, true, l⟩ :: cx) (i := i - l.cnt - 1) (k := k) (by omega) rfl hf hr' nd (by omega) (by omega)
        exact ⟨H', f, cx', e1, e2, e3, by rw [e4, hpre]; omega, fun j hj => (e5 j hj).trans (ho j hj)⟩
    · rw [if_neg hlt]
      have hf : HoldsC (upd H b (·.setN ((l.cnt + r.cnt + 1 + 1 : Nat) : Int))) (⟨b, h, c, false, r⟩ :: cx) l.ptr (l.cnt + 1) := by
        refine ⟨?_, hr', ?_⟩
        · rw [upd_same, hb]
          simp only [Option.map_some, Nd.setN, ndF, Bool.false_eq_true, if_false, Option.some.injEq, Nd.mk.injEq, true_and, and_true]
          omega
        · have e : l.cnt + 1 + r.cnt + 1 = l.cnt + r.cnt + 1 + 1 := by omega
          simp only [e]
          exact hcx'
      have hpl : plug (⟨b, h, c, false, r⟩ :: cx) l = plug cx (.node b h c l r) := rfl
      have hpre : (preC (⟨b, h, c, false, r⟩ :: cx)).length = (preC cx).length := by simp [preC]
      cases l with
      | leaf =>
        have : i = 0 := by simp [TT.cnt] at hlt; omega
        exact ⟨_, ⟨b, h, c, false, r⟩, cx, rfl, hf, hpl, by rw [hpre]; omega, ho⟩
      | node lb lh lc ll lr =>
        simp only [TT.ptr]
        obtain ⟨H', f, cx', e1, e2, e3, e4, e5⟩ := ihl (cx := ⟨b, h, c, false, r⟩ :: cx) (i := i) (k := k) (by omega) rfl hf hl' nd (by omega) (by omega)
        exact ⟨H', f, cx', e1, e2, e3, by rw [e4, hpre], fun j hj => (e5 j hj).trans (ho j hj)⟩

/-- A tree in order among the nodes. -/
structure Good (H : Hp) (T : TT) : Prop where
  holds : Holds H .none T
  nd : T.ids.Nodup
  rb : ∃ N, RB T false N

theorem insZ {H : Hp} {T : TT} (hG : Good H T) (x : Nat) (hx : x ∉ T.ids) (h : Hd) (i : Nat) (hi : i ≤ T.cnt) (small : T.cnt + 1 < 1099511627776) :
    ∃ k H' T', insH k T.ptr (hadd H x ⟨h.s, h.g, .none, .none, .none, 1, true⟩) i x = some (T'.ptr, H') ∧ Good H' T' ∧ T'.prs = T.prs.take i ++ (h, x) :: T.prs.drop i := by
  obtain ⟨hz, nd, N, hN⟩ := hG
  have hnew : hadd H x ⟨h.s, h.g, .none, .none, .none, 1, true⟩ x = some ⟨h.s, h.g, .none, .none, .none, 1, true⟩ := by simp [hadd]
  have hz0 : Holds (hadd H x ⟨h.s, h.g, .none, .none, .none, 1, true⟩) .none T := hz.frame (fun k hk => by
    unfold hadd
    rw [if_neg (fun (e : k = x) => hx (e ▸ hk))])
  generalize hadd H x ⟨h.s, h.g, .none, .none, .none, 1, true⟩ = H0 at hnew hz0
  cases hT : T with
  | leaf =>
    subst hT
    have hi0 : i = 0 := by simp [TT.cnt] at hi; exact hi
    subst hi0
    refine ⟨0, upd H0 x (·.setRed false), .node x h false .leaf .leaf, rfl, ⟨⟨?_, trivial, trivial⟩, by simp [TT.ids], 1, RB.black .leaf .leaf⟩, by simp [TT.prs]⟩
    rw [upd_same, hnew]
    rfl
  | node b hb c l r =>
    rw [← hT]
    have hp : T.ptr = some b := by rw [hT]; rfl
    obtain ⟨H1, f, cx', e1, e2, e3, e4, e5⟩ := descZ T (cx := []) (k := T.cnt + 2) (i := i) (by omega) hp trivial hz0 nd (by omega) hi
    have e3 : plug (f :: cx') .leaf = T := e3
    have e5 : ∀ j, j ∉ T.ids → H1 j = H0 j := e5
    have hperm := plug_ids (f :: cx') .leaf
    rw [e3] at hperm
    simp only [TT.ids, List.append_nil] at hperm
    have ndC : (idsC (f :: cx')).Nodup := hperm.nodup_iff.1 nd
    have hxC : x ∉ idsC (f :: cx') := fun hm => hx (hperm.mem_iff.2 hm)
    have h1x : H1 x = some ⟨h.s, h.g, .none, .none, .none, 1, true⟩ := (e5 x hx).trans hnew
    have hbx : f.b ≠ x := fun e => hxC (by simp [idsC, e])
    have hz2 : Holds (upd (upd H1 f.b (·.setKid f.s (some x))) x (·.setUp (some f.b))) .none (plug (f :: cx') (.node x h true .leaf .leaf)) := by
      refine holds_plug.2 ⟨?_, ?_, trivial, trivial⟩
      · exact e2.rekid ndC ((upd_other _ _ _ _ hbx).trans (upd_same _ _ _)) (fun j hj hn => (upd_other _ _ _ _ (fun (e : j = x) => hxC (e ▸ hj))).trans (upd_other _ _ _ _ hn))
      · rw [upd_same, upd_other _ _ _ _ (fun e => hbx e.symm), h1x]
        rfl
    have nd2 : (plug (f :: cx') (.node x h true .leaf .leaf)).ids.Nodup := by
      rw [← ND_iff]
      unfold ND
      simp only [TT.ids, List.nil_append]
      rw [List.nodup_append]
      exact ⟨ndC, by simp, fun a ha y hy e => by simp at hy; subst hy; subst e; exact hxC ha⟩
    have hprs : preC (f :: cx') ++ postC (f :: cx') = T.prs := by
      rw [← e3, plug_prs]
      simp [TT.prs]
    have hprs2 : (plug (f :: cx') (.node x h true .leaf .leaf)).prs = T.prs.take i ++ (h, x) :: T.prs.drop i := by
      rw [plug_prs]
      simp only [preC, List.length_nil, Nat.zero_add] at e4
      have e4' : (preC (f :: cx')).length = i := e4
      rw [← hprs, List.take_append_of_le_length (by omega), List.take_of_length_le (by omega), List.drop_append_of_le_length (by omega), List.drop_of_length_le (by omega)]
      simp [TT.prs]
    have hfit : FitC (f :: cx') 0 := by
      rw [← e3] at hN
      obtain ⟨c0, n0, g1, g2, g3⟩ := rb_plug hN
      cases g1
      exact g2
    have hcnt : (plug (f :: cx') (.node x h true .leaf .leaf)).cnt = T.cnt + 1 := by
      rw [TT.cnt_prs, hprs2, TT.cnt_prs]
      simp
      rw [TT.cnt_prs] at hi
      omega
    have hlen := length_cx (f :: cx') .leaf
    rw [e3] at hlen
    obtain ⟨H', T', N', s1, s2, s3, s4⟩ := settlesZ (f :: cx').length (k := T.cnt + 2) (Nat.le_refl _) (by omega) hz2 nd2 (by omega) .leaf .leaf hfit
    refine ⟨T.cnt + 2, H', T', ?_, ⟨s2, prs_nd s4 nd2, N', s3⟩, s4.trans hprs2⟩
    unfold insH
    obtain ⟨Fn, hFn⟩ := Option.isSome_iff_exists.1 (e2.some f.b (by simp [idsC]))
    have hroot : rootC (f :: cx') (some x) = some b := by
      have := plug_ptr (f :: cx') .leaf
      rw [e3, hp] at this
      exact this.symm
    rw [hroot] at s1
    simp only [hp, e1, Option.bind_some, if_neg hbx, hFn, h1x]
    exact s1

end Go.Proofs.Ytimhbnlgambcaaa
