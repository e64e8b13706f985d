/- Index, At, Deep and Remove, told of trees. No program. -/
import Derived.Test.YtimhbnlgambcaaaPh
namespace Go.Proofs.Ytimhbnlgambcaaa
open Go.RowKit

theorem plug_append : ∀ (a b : Cx) (T : TT), plug (a ++ b) T = plug b (plug a T)
  | [], _, _ => rfl
  | f :: a, b, T => by
    show plug (a ++ b) _ = plug b (plug a _)
    exact plug_append a b _
theorem preC_append : ∀ (a b : Cx), preC (a ++ b) = preC b ++ preC a
  | [], b => by simp [preC]
  | f :: a, b => by
    show preC (a ++ b) ++ _ = _
    rw [preC_append a b, preC, List.append_assoc]
theorem postC_append : ∀ (a b : Cx), postC (a ++ b) = postC a ++ postC b
  | [], b => by simp [postC]
  | f :: a, b => by
    show _ ++ postC (a ++ b) = _
    rw [postC_append a b, postC, List.append_assoc]

/-- Where a node stands. -/
theorem find_node : ∀ {T : TT} {h : Hd} {b : Nat}, (h, b) ∈ T.prs → ∃ cx c l r, T = plug cx (.node b h c l r)
  | .leaf, _, _, hm => by cases hm
  | .node b' h' c' l' r', h, b, hm => by
    simp only [TT.prs, List.mem_append, List.mem_cons] at hm
    rcases hm with hm | hm | hm
    · obtain ⟨cx, c, l, r, e⟩ := find_node hm
      exact ⟨cx ++ [⟨b', h', c', false, r'⟩], c, l, r, by rw [plug_append, ← e]; rfl⟩
    · cases hm
      exact ⟨[], c', l', r', rfl⟩
    · obtain ⟨cx, c, l, r, e⟩ := find_node hm
      exact ⟨cx ++ [⟨b', h', c', true, l'⟩], c, l, r, by rw [plug_append, ← e]; rfl⟩

theorem nd_cons {f : Fr} {cx : Cx} (nd : (idsC (f :: cx)).Nodup) : f.b ∉ idsC cx ∧ (idsC cx).Nodup ∧ f.o.ids.Nodup ∧ f.b ∉ f.o.ids ∧ ∀ j ∈ idsC cx, j ∉ f.o.ids := by
  simp only [idsC, List.cons_append, List.nodup_cons, List.mem_append, not_or, List.nodup_append] at nd
  exact ⟨nd.1.2, nd.2.2.1, nd.2.1, nd.1.1, fun j hj hj' => nd.2.2.2 j hj' j hj rfl⟩

/-! ### Index -/
theorem idxUp : ∀ (cx : Cx) {H : Hp} {x n k : Nat} {X : Nd} {i : Nat}, cx.length < k → H x = some X → X.up = upC cx → HoldsC H cx (some x) n → x ∉ idsC cx → (idsC cx).Nodup → i + (preC cx).length < 1099511627776 →
    idxH k H x i = some ((i + (preC cx).length : Nat) : Int)
  | [], H, x, n, k, X, i, hk, hX, hu, _, _, _, _ => by
    obtain ⟨k, rfl⟩ : ∃ j, k = j + 1 := ⟨k - 1, by omega⟩
    simp [idxH, hX, hu, upC, preC]
  | f :: cx, H, x, n, k, X, i, hk, hX, hu, hh, hx, nd, sm => by
    obtain ⟨k, rfl⟩ : ∃ j, k = j + 1 := ⟨k - 1, by omega⟩
    have hw : whichH H x = some f.s := whichZ hX hu hh hx
    have hu' : X.up = some f.b := hu
    obtain ⟨hf, hfo, hcx⟩ := hh
    obtain ⟨nf, ndc, _, _, _⟩ := nd_cons nd
    simp only [List.length_cons] at hk
    cases hs : f.s with
    | true =>
      have hpre : (preC (f :: cx)).length = (preC cx).length + f.o.cnt + 1 := by simp [preC, hs, TT.cnt_prs]; omega
      rw [hpre] at sm ⊢
      have hl : sizeH H (ndF f (some x) n (upC cx)).l = some (f.o.cnt : Int) := by simp only [ndF, hs, if_true]; exact hfo.size
      have ih := idxUp cx (k := k) (i := i + f.o.cnt + 1) (by omega) hf rfl hcx nf ndc (by omega)
      have hwr : wrap64 ((i : Int) + wrap64 ((f.o.cnt : Int) + 1)) = ((i + f.o.cnt + 1 : Nat) : Int) := by
        rw [wrap_in ((f.o.cnt : Int) + 1) (by omega) (by omega), wrap_in _ (by omega) (by omega)]
        omega
      simp only [idxH, hX, Option.bind_some, hu', hw, hs, hf, if_true, hl, hwr, ih]
      congr 2
      omega
    | false =>
      have hpre : (preC (f :: cx)).length = (preC cx).length := by simp [preC, hs]
      rw [hpre] at sm ⊢
      have ih := idxUp cx (k := k) (i := i) (by omega) hf rfl hcx nf ndc sm
      simp only [idxH, hX, Option.bind_some, hu', hw, hs, hf, Bool.false_eq_true, if_false, ih]

theorem idxZ {H : Hp} {cx : Cx} {b : Nat} {h : Hd} {c : Bool} {l r : TT} (hG : Good H (plug cx (.node b h c l r))) (sm : (plug cx (.node b h c l r)).cnt < 1099511627776) :
    ∃ k X, H b = some X ∧ sizeH H X.l = some (l.cnt : Int) ∧ idxH k H b l.cnt = some ((preC cx ++ l.prs).length : Int) := by
  obtain ⟨hcx, hb, hl, hr⟩ := holds_plug.1 hG.holds
  obtain ⟨n1, n2, n3⟩ := nd_frames hG.nd
  have hcnt : (preC cx).length + l.cnt < 1099511627776 := by
    rw [TT.cnt_prs, plug_prs] at sm
    simp only [TT.prs, List.length_append, List.length_cons] at sm
    rw [TT.cnt_prs]
    omega
  refine ⟨cx.length + 1, _, hb, hl.size, ?_⟩
  rw [idxUp cx (Nat.lt_succ_self _) hb rfl hcx (fun hm => n3 b hm (by simp [TT.ids])) n1 (by omega)]
  simp only [List.length_append, TT.cnt_prs]
  congr 2
  omega

/-! ### At -/
theorem atZ : ∀ (T : TT) {H : Hp} {up : Option Nat} {b i k : Nat}, Holds H up T → T.ptr = some b → i < T.cnt → T.cnt ≤ k → T.cnt < 1099511627776 →
    ∃ q, T.prs[i]? = some q ∧ atH k H b i = some (q.1.s, q.1.g) := by
  intro T
  induction T with
  | leaf => intro H up b i k _ hp; cases hp
  | node b' h c l r ihl ihr =>
    intro H up b i k hz hp hi hk sm
    cases hp
    obtain ⟨hb, hl, hr⟩ := hz
    simp only [TT.cnt] at hi hk sm
    obtain ⟨k, rfl⟩ : ∃ j, k = j + 1 := ⟨k - 1, by omega⟩
    have hlp : l.prs.length = l.cnt := (TT.cnt_prs l).symm
    rcases Nat.lt_trichotomy i l.cnt with hlt | heq | hgt
    · cases hlp' : l.ptr with
      | none => cases l with
        | leaf => simp [TT.cnt] at hlt
        | node => cases hlp'
      | some d =>
        obtain ⟨q, q1, q2⟩ := ihl (i := i) (k := k) hl hlp' hlt (by omega) (by omega)
        refine ⟨q, ?_, ?_⟩
        · simp only [TT.prs]
          rw [List.getElem?_append_left (by omega)]
          exact q1
        · have e1 : ¬ (i : Int) = (l.cnt : Int) := by omega
          have e2 : (i : Int) < (l.cnt : Int) := by omega
          unfold atH
          rw [hb, Option.bind_some]
          show (sizeH H l.ptr).bind _ = _
          rw [hl.size, Option.bind_some, if_neg e1, if_pos e2]
          show l.ptr.bind _ = _
          rw [hlp', Option.bind_some]
          exact q2
    · subst heq
      refine ⟨(h, b'), ?_, ?_⟩
      · simp only [TT.prs]
        rw [List.getElem?_append_right (by omega), hlp]
        simp
      · unfold atH
        rw [hb, Option.bind_some]
        show (sizeH H l.ptr).bind _ = _
        rw [hl.size, Option.bind_some, if_pos rfl]
    · cases hrp : r.ptr with
      | none => cases r with
        | leaf => simp [TT.cnt] at hi; omega
        | node => cases hrp
      | some d =>
        obtain ⟨q, q1, q2⟩ := ihr (i := i - l.cnt - 1) (k := k) hr hrp (by omega) (by omega) (by omega)
        refine ⟨q, ?_, ?_⟩
        · simp only [TT.prs]
          rw [List.getElem?_append_right (by omega), hlp]
          obtain ⟨m, hm⟩ : ∃ m, i - l.cnt = m + 1 := ⟨i - l.cnt - 1, by omega⟩
          rw [hm, List.getElem?_cons_succ]
          have : m = i - l.cnt - 1 := by omega
          rw [this]
          exact q1
        · have e1 : ¬ (i : Int) = (l.cnt : Int) := by omega
          have e2 : ¬ (i : Int) < (l.cnt : Int) := by omega
          have e3 : wrap64 ((i : Int) - wrap64 ((l.cnt : Int) + 1)) = ((i - l.cnt - 1 : Nat) : Int) := by
            rw [wrap_in ((l.cnt : Int) + 1) (by omega) (by omega), wrap_in _ (by omega) (by omega)]
            omega
          unfold atH
          rw [hb, Option.bind_some]
          show (sizeH H l.ptr).bind _ = _
          rw [hl.size, Option.bind_some, if_neg e1, if_neg e2]
          show r.ptr.bind _ = _
          rw [hrp, Option.bind_some, e3]
          exact q2

/-! ### Deep -/
def TT.dep : TT → Nat
  | .leaf => 0
  | .node _ _ _ l r => 1 + max l.dep r.dep
theorem dep_le : ∀ T : TT, T.dep ≤ T.cnt
  | .leaf => Nat.le_refl _
  | .node b h c l r => by
    have h1 := dep_le l
    have h2 := dep_le r
    simp only [TT.dep, TT.cnt]
    omega
theorem deepZ : ∀ (T : TT) {H : Hp} {up : Option Nat} {k : Nat}, Holds H up T → T.cnt ≤ k → T.cnt < 1099511627776 → deepH k H T.ptr = some (T.dep : Int) := by
  intro T
  induction T with
  | leaf => intro H up k _ _ _; cases k <;> rfl
  | node b h c l r ihl ihr =>
    intro H up k hz hk sm
    obtain ⟨hb, hl, hr⟩ := hz
    have d1 := dep_le l
    have d2 := dep_le r
    simp only [TT.cnt] at hk sm
    obtain ⟨k, rfl⟩ : ∃ j, k = j + 1 := ⟨k - 1, by omega⟩
    show deepH (k + 1) H (some b) = _
    unfold deepH
    rw [hb, Option.bind_some]
    show (deepH k H l.ptr).bind (fun a => (deepH k H r.ptr).bind fun b => some (wrap64 (1 + max a b))) = _
    rw [ihl (k := k) hl (by omega) (by omega), Option.bind_some, ihr (k := k) hr (by omega) (by omega), Option.bind_some, wrap_in _ (by omega) (by omega)]
    simp only [TT.dep]
    congr 1
    omega
theorem rb_dep {T : TT} {c : Bool} {n : Nat} (h : RB T c n) : T.dep ≤ 2 * n + (if c then 1 else 0) ∧ 2 ^ n ≤ T.cnt + 1 := by
  induction h with
  | leaf => simp [TT.dep, TT.cnt]
  | red h1 h2 ih1 ih2 =>
    simp only [TT.dep, TT.cnt, Bool.false_eq_true, if_false, if_true] at *
    omega
  | black h1 h2 ih1 ih2 =>
    simp only [TT.dep, TT.cnt, Bool.false_eq_true, if_false] at *
    obtain ⟨a1, a2⟩ := ih1
    obtain ⟨b1, b2⟩ := ih2
    refine ⟨?_, ?_⟩
    · split at a1 <;> split at b1 <;> omega
    · rw [Nat.pow_succ]
      omega

end Go.Proofs.Ytimhbnlgambcaaa
