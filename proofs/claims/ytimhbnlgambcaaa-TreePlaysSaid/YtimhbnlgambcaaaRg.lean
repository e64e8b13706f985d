/-
  TreePlays (Rows.TreePlaysSaid): for every script the function answers true and turns nothing that was there. No condition.
  (The frame around the walk follows proof-skeleton.mjs.)
-/
import Derived.Test.YtimhbnlgambcaaaRows
import Derived.Test.YtimhbnlgambcaaaRf
import Derived.Test.YtimhbnlgambcaaaWs
import Derived.WalkKit
import Derived.ProofKit
import Derived.OpenShut
import Derived.ShutString
import Derived.ChangeOld
import Derived.Below
namespace Go.Proofs.Ytimhbnlgambcaaa.treePlays
open Go.ChangeShapes Go.WideShapes Go.ChangeAt Go.RowKit
open Go.ChangeMaps (open_string shut_string)

theorem own : ownKnob Try.prog.godebug = none := by kernel_rfl
theorem laidOut : laidOutB Try.prog = true := by kernel_rfl
theorem cells36 : Try.prog.cellsOf 36 = 4 := by kernel_rfl
theorem cells34 : Try.prog.cellsOf 34 = 2 := by kernel_rfl

set_option maxRecDepth 100000 in
theorem steps_of {H : Type} {enc : TypeId × Value → H} {w : World} {base : Nat} {spare : Nat → Bool} {held : Bool} {fuel : Nat} {a : Option Addr} {len cap : Nat} {x : DataW H × List MemPlace}
    (h : DataW.trod enc Try.prog w base spare held fuel 22 [.slice a len cap] = some x) : IsSteps w a len := by
  intro i hi
  rcases Go.Deep.open_slice Try.underlying22 h with ⟨h0, _⟩ | ⟨ad, len', cap', m, n, D, Pl, hcs, hb, hl, hm, hmm, hx, hel⟩
  · simp at h0
    omega
  · simp at hcs
    obtain ⟨rfl, rfl, rfl⟩ := hcs
    have him : i < m := by rw [hmm]; split <;> omega
    have h00 : 0 < m := by omega
    obtain ⟨cs0, hc0, ht0⟩ := hel 0 h00
    obtain ⟨cs, hc, ht⟩ := hel i him
    rw [cells36] at hc hc0
    obtain ⟨_, _, hat0⟩ := World.cells?_some hc0
    obtain ⟨_, hlen, hat⟩ := World.cells?_some hc
    obtain ⟨b0, hb0⟩ := bool_field Try.underlying36 ht0 (j := 0) rfl Try.underlying4
    have hs := hat0 0 (by omega)
    simp only [Nat.zero_mul] at hs
    rw [show cs0[0]? = some (.bool b0) from hb0] at hs
    have hsp : ad.spot = .none := spot_of (a := ad) hs
    obtain ⟨b, o, sp⟩ := ad
    cases (show sp = .none from hsp)
    obtain ⟨rm, h1⟩ := bool_field Try.underlying36 ht (j := 0) rfl Try.underlying4
    obtain ⟨p, h2, hp⟩ := int_field Try.underlying36 ht (j := 1) rfl Try.underlying3
    obtain ⟨n', y, hy⟩ := field_of Try.underlying36 ht (j := 2) rfl
    obtain ⟨sl, h3, hsl⟩ := int_field Try.underlying34 hy (j := 0) rfl Try.underlying3
    obtain ⟨g, h4, hg⟩ := int_field Try.underlying34 hy (j := 1) rfl Try.underlying32
    have h3' := sub_at h3
    have h4' := sub_at h4
    refine ⟨b, o, rm, p, ⟨sl, g⟩, rfl, ⟨hsl, hg⟩, hp, fun wr hbel => ?_⟩
    have e : ∀ j v, j < 4 → cs[j]? = some v → wr.cell? ⟨b, o + i * 4 + j, .none⟩ = some v := by
      intro j v hj hv
      have := (hat j hj).trans hv
      rw [add_at, add_at] at this
      exact (hbel.cell (p := ⟨b, o + i * 4 + j, .none⟩) (block_lt_of_cell this)).trans this
    exact ⟨e 0 _ (by omega) h1, e 1 _ (by omega) h2, e 2 _ (by omega) h3', e 3 _ (by omega) h4'⟩

/-! ### THE ROW's STEP -/
set_option maxRecDepth 100000 in
theorem lifted (os : Os) (started : os.Started) (H : Type) (enc : TypeId × Value → H) :
    ReturnsInHanded {} Try.checked os 3 .any (Rows.treePlaysSpec.pre6 enc Try.prog Try.f3 Rows.treePlaysRow.domain false) (Rows.treePlaysSpec.post enc Try.prog Try.f3 false true false false) := by
  refine returnsInHanded_of_change (C := Try.checked) own started (by kernel_rfl) Try.func3
    (ChangeSpec.witness6 (enc := enc) (C := Try.checked) false ⟨#[], #[.slice none 0 0], []⟩ 8 (by kernel_rfl) (by kernel_rfl) (by kernel_rfl) (by kernel_rfl)) ?_
  intro W base args ds gs before hval0 hW hcnd _
  have hval : ∀ (j : Nat) t v, Try.f3.params[j]? = some t → args[j]? = some v → Value.okWide Try.prog W .any base t v := hval0
  have hW' := hW
  obtain ⟨p, q, hA0, hV, rfl, hfz, hnd⟩ := hW
  have hA : DataW.TrodAll enc Try.prog W 0 (fun _ => true) true Try.f3.params.toList args.toList ds p := hA0
  rw [Try.params3] at hA hval
  obtain ⟨v1, vs1, d1, ds1, p1, q1, hargs, rfl, rfl, h1, r1⟩ := trodAll_cons hA
  obtain ⟨rfl, rfl, rfl⟩ := trodAll_nil r1
  obtain rfl : args = #[v1] := by cases args; simp_all
  obtain ⟨rfl, rfl⟩ := trodVars_none hV
  obtain ⟨a1, len1, cap1, rfl⟩ := okWide_slice Try.underlying22 (hval 0 22 v1 rfl rfl)
  have k1 := h1
  have lt1 : ∀ x ∈ p1, x.block < W.heap.size := by obtain ⟨m, hm⟩ := k1; exact DataW.trod_lt m _ _ _ hm
  have w1 : IsSteps W a1 len1 := by obtain ⟨fuel, hf⟩ := h1; exact steps_of hf
  clear hA0 hval0
  refine (treePlays_walk a1 len1 cap1 W w1).mono fun e W' ⟨he, bel⟩ => ?_
  subst he
  exact ⟨_, rfl, _, _, _, [], _, [], hW', trodAll_mk1 (shut_bool Try.underlying4 _), (trodAll_cons_mk (Below.trod laidOut (by kernel_rfl) (of_decide_eq_true (by kernel_rfl)) k1 bel lt1) trodAll_mk0), rfl, bel.frame _, fun h => by cases h⟩

theorem over : Rows.treePlaysRow.holds Try.pinned (OpenSpec.ofChange Rows.treePlaysSpec) :=
  OpenClaim.holds_of_wide 3 Try.f3 rfl rfl rfl rfl rfl rfl rfl ⟨rfl, rfl, rfl, rfl, rfl⟩ rfl rfl rfl rfl rfl (by kernel_rfl) Try.func3 (by kernel_rfl)
    (of_decide_eq_true (by kernel_rfl)) (by unfold Func.isWrapper; first | (rw [if_pos (by decide +kernel)]; kernel_rfl) | (rw [if_neg (by decide +kernel)]; exact ⟨rfl, rfl⟩))
    (fun os started H enc _ => lifted os started H enc)

/-- ████ THE STATEMENT ████ -/
theorem proved : Rows.TreePlaysSaid := over
#print axioms proved
end Go.Proofs.Ytimhbnlgambcaaa.treePlays
