/-
  GraphApart (Rows.GraphApartSaid): for every script the function answers true and turns nothing that was there. No condition.
  (The frame around the walk follows proof-skeleton.mjs.)
-/
import Derived.Test.YtimhbnlgambcaaaRows
import Derived.Test.YtimhbnlgambcaaaGs
import Derived.Test.YtimhbnlgambcaaaWs
import Derived.WalkKit
import Derived.ProofKit
import Derived.OpenShut
import Derived.ShutString
import Derived.ChangeOld
import Derived.Below
namespace Go.Proofs.Ytimhbnlgambcaaa.graphApart
open Go.ChangeShapes Go.WideShapes Go.ChangeAt Go.RowKit
open Go.ChangeMaps (open_string shut_string)

theorem own : ownKnob Try.prog.godebug = none := by kernel_rfl
theorem laidOut : laidOutB Try.prog = true := by kernel_rfl
theorem cells59 : Try.prog.cellsOf 59 = 9 := by kernel_rfl
theorem cells55 : Try.prog.cellsOf 55 = 3 := by kernel_rfl
theorem cells34 : Try.prog.cellsOf 34 = 2 := by kernel_rfl

set_option maxRecDepth 100000 in
theorem steps_of {H : Type} {enc : TypeId × Value → H} {w : World} {base : Nat} {spare : Nat → Bool} {held : Bool} {fuel : Nat} {a : Option Addr} {len cap : Nat} {x : DataW H × List MemPlace}
    (h : DataW.trod enc Try.prog w base spare held fuel 53 [.slice a len cap] = some x) : IsStepsG w a len := by
  intro i hi
  rcases Go.Deep.open_slice Try.underlying53 h with ⟨h0, _⟩ | ⟨ad, len', cap', m, n, D, Pl, hcs, hb, hl, hm, hmm, hx, hel⟩
  · simp at h0
    omega
  · simp at hcs
    obtain ⟨rfl, rfl, rfl⟩ := hcs
    have him : i < m := by rw [hmm]; split <;> omega
    have h00 : 0 < m := by omega
    obtain ⟨cs0, hc0, ht0⟩ := hel 0 h00
    obtain ⟨cs, hc, ht⟩ := hel i him
    rw [cells59] at hc hc0
    obtain ⟨_, _, hat0⟩ := World.cells?_some hc0
    obtain ⟨_, hlen, hat⟩ := World.cells?_some hc
    obtain ⟨b0, hb0, _⟩ := int_field Try.underlying59 ht0 (j := 0) rfl Try.underlying3
    have hs := hat0 0 (by omega)
    simp only [Nat.zero_mul] at hs
    rw [show cs0[0]? = some (.int .i64 b0) from hb0] at hs
    have hsp : ad.spot = .none := spot_of (a := ad) hs
    obtain ⟨b, o, sp⟩ := ad
    cases (show sp = .none from hsp)
    obtain ⟨d, h0, hd⟩ := int_field Try.underlying59 ht (j := 0) rfl Try.underlying3
    obtain ⟨at', h1, hat'⟩ := int_field Try.underlying59 ht (j := 1) rfl Try.underlying3
    obtain ⟨nd, h2, hnd⟩ := int_field Try.underlying59 ht (j := 2) rfl Try.underlying3
    obtain ⟨n3, y3, hy3⟩ := field_of Try.underlying59 ht (j := 3) rfl
    obtain ⟨n4, y4, hy4⟩ := field_of Try.underlying59 ht (j := 4) rfl
    obtain ⟨pm, g3, hpm⟩ := int_field Try.underlying55 hy3 (j := 0) rfl Try.underlying3
    obtain ⟨ps, g4, hps⟩ := int_field Try.underlying55 hy3 (j := 1) rfl Try.underlying3
    obtain ⟨pa, g5, hpa⟩ := int_field Try.underlying55 hy3 (j := 2) rfl Try.underlying3
    obtain ⟨sl, g6, hsl⟩ := int_field Try.underlying34 hy4 (j := 0) rfl Try.underlying3
    obtain ⟨gn, g7, hgn⟩ := int_field Try.underlying34 hy4 (j := 1) rfl Try.underlying32
    obtain ⟨fr, h8⟩ := bool_field Try.underlying59 ht (j := 5) rfl Try.underlying4
    have h3 := sub_at g3
    have h4 := sub_at g4
    have h5 := sub_at g5
    have h6 := sub_at g6
    have h7 := sub_at g7
    refine ⟨b, o, ⟨d, at', nd, ⟨pm, ps, pa⟩, ⟨sl, gn⟩, fr⟩, rfl, ⟨hd, hat', hnd, ⟨hpm, hps, hpa⟩, ⟨hsl, hgn⟩⟩, fun wr hbel => ?_⟩
    have e : ∀ j v, j < 9 → cs[j]? = some v → wr.cell? ⟨b, o + i * 9 + j, .none⟩ = some v := by
      intro j v hj hv
      have := (hat j hj).trans hv
      rw [add_at, add_at] at this
      exact (hbel.cell (p := ⟨b, o + i * 9 + j, .none⟩) (block_lt_of_cell this)).trans this
    intro k hk
    obtain rfl | rfl | rfl | rfl | rfl | rfl | rfl | rfl | rfl : k = 0 ∨ k = 1 ∨ k = 2 ∨ k = 3 ∨ k = 4 ∨ k = 5 ∨ k = 6 ∨ k = 7 ∨ k = 8 := by omega
    · exact e 0 _ (by omega) h0
    · exact e 1 _ (by omega) h1
    · exact e 2 _ (by omega) h2
    · exact e 3 _ (by omega) h3
    · exact e 4 _ (by omega) h4
    · exact e 5 _ (by omega) h5
    · exact e 6 _ (by omega) h6
    · exact e 7 _ (by omega) h7
    · exact e 8 _ (by omega) h8

/-! ### THE ROW's STEP -/
set_option maxRecDepth 100000 in
theorem lifted (os : Os) (started : os.Started) (H : Type) (enc : TypeId × Value → H) :
    ReturnsInHanded {} Try.checked os 5 .any (Rows.graphApartSpec.pre6 enc Try.prog Try.f5 Rows.graphApartRow.domain false) (Rows.graphApartSpec.post enc Try.prog Try.f5 false true false false) := by
  refine returnsInHanded_of_change (C := Try.checked) own started (by kernel_rfl) Try.func5
    (ChangeSpec.witness6 (enc := enc) (C := Try.checked) false ⟨#[], #[.slice none 0 0], []⟩ 8 (by kernel_rfl) (by kernel_rfl) (by kernel_rfl) (by kernel_rfl)) ?_
  intro W base args ds gs before hval0 hW hcnd _
  have hval : ∀ (j : Nat) t v, Try.f5.params[j]? = some t → args[j]? = some v → Value.okWide Try.prog W .any base t v := hval0
  have hW' := hW
  obtain ⟨p, q, hA0, hV, rfl, hfz, hnd⟩ := hW
  have hA : DataW.TrodAll enc Try.prog W 0 (fun _ => true) true Try.f5.params.toList args.toList ds p := hA0
  rw [Try.params5] at hA hval
  obtain ⟨v1, vs1, d1, ds1, p1, q1, hargs, rfl, rfl, h1, r1⟩ := trodAll_cons hA
  obtain ⟨rfl, rfl, rfl⟩ := trodAll_nil r1
  obtain rfl : args = #[v1] := by cases args; simp_all
  obtain ⟨rfl, rfl⟩ := trodVars_none hV
  obtain ⟨a1, len1, cap1, rfl⟩ := okWide_slice Try.underlying53 (hval 0 53 v1 rfl rfl)
  have k1 := h1
  have lt1 : ∀ x ∈ p1, x.block < W.heap.size := by obtain ⟨m, hm⟩ := k1; exact DataW.trod_lt m _ _ _ hm
  have w1 : IsStepsG W a1 len1 := by obtain ⟨fuel, hf⟩ := h1; exact steps_of hf
  clear hA0 hval0
  refine (graphApart_walk a1 len1 cap1 W w1).mono fun e W' ⟨he, bel⟩ => ?_
  subst he
  exact ⟨_, rfl, _, _, _, [], _, [], hW', trodAll_mk1 (shut_bool Try.underlying4 _), (trodAll_cons_mk (Below.trod laidOut (by kernel_rfl) (of_decide_eq_true (by kernel_rfl)) k1 bel lt1) trodAll_mk0), rfl, bel.frame _, fun h => by cases h⟩

theorem over : Rows.graphApartRow.holds Try.pinned (OpenSpec.ofChange Rows.graphApartSpec) :=
  OpenClaim.holds_of_wide 5 Try.f5 rfl rfl rfl rfl rfl rfl rfl ⟨rfl, rfl, rfl, rfl, rfl⟩ rfl rfl rfl rfl rfl (by kernel_rfl) Try.func5 (by kernel_rfl)
    (of_decide_eq_true (by kernel_rfl)) (by unfold Func.isWrapper; first | (rw [if_pos (by decide +kernel)]; kernel_rfl) | (rw [if_neg (by decide +kernel)]; exact ⟨rfl, rfl⟩))
    (fun os started H enc _ => lifted os started H enc)

/-- ████ THE STATEMENT ████ -/
theorem proved : Rows.GraphApartSaid := over
#print axioms proved
end Go.Proofs.Ytimhbnlgambcaaa.graphApart
