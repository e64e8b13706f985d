/- The walk of works. -/
import Derived.Test.YtimhbnlgambcaaaLb
namespace Go.Proofs.Ytimhbnlgambcaaa
open Go.RowKit Go.BigFrame

theorem ok_small (s : Int) (g : Int) (h : 0 ≤ s ∧ s < 1000000 ∧ 0 ≤ g ∧ g < 1000000) : (Hd.mk s g).ok := by
  refine ⟨?_, ?_⟩ <;> (simp [Lit.wf, IntKind.min, IntKind.max, IntKind.signed, IntKind.bits]; omega)

set_option maxRecDepth 100000 in
set_option maxHeartbeats 2000000 in
theorem works_any (w0 w : World) (hb : Below w0.heap.size w0 w) : Calls Try.prog 9 #[] w fun e w' => e = .returned (.bool true) ∧ Below w0.heap.size w0 w' := by
  go_enter Try.func9, Try.ntmps9
  go_wp2_with fail
  refine (st_new hb).mono ?_
  rintro e w1 ⟨tb, rfl, h1⟩
  go_wp2_with fail
  refine (st_one h1 1).mono ?_
  rintro e w2 ⟨rfl, h2⟩
  go_wp2_with fail
  refine (st_insert h2 0 ⟨1, 1⟩ (ok_small _ _ (by decide)) (by decide)).mono ?_
  rintro e w3 ⟨rfl, h3⟩
  rw [show insErr [] 0 ⟨1, 1⟩ = 0 from rfl]
  rw [show insList [] 0 ⟨1, 1⟩ = [⟨1, 1⟩] from rfl] at h3
  clear h1 h2
  go_wp2_with fail
  refine (st_one h3 2).mono ?_
  rintro e w4 ⟨rfl, h4⟩
  go_wp2_with fail
  refine (st_insert h4 0 ⟨2, 1⟩ (ok_small _ _ (by decide)) (by decide)).mono ?_
  rintro e w5 ⟨rfl, h5⟩
  rw [show insErr [⟨1, 1⟩] 0 ⟨2, 1⟩ = 0 from rfl]
  rw [show insList [⟨1, 1⟩] 0 ⟨2, 1⟩ = [⟨2, 1⟩, ⟨1, 1⟩] from rfl] at h5
  clear h3 h4
  go_wp2_with fail
  refine (st_one h5 3).mono ?_
  rintro e w6 ⟨rfl, h6⟩
  go_wp2_with fail
  refine (st_insert h6 1 ⟨3, 1⟩ (ok_small _ _ (by decide)) (by decide)).mono ?_
  rintro e w7 ⟨rfl, h7⟩
  rw [show insErr [⟨2, 1⟩, ⟨1, 1⟩] 1 ⟨3, 1⟩ = 0 from rfl]
  rw [show insList [⟨2, 1⟩, ⟨1, 1⟩] 1 ⟨3, 1⟩ = [⟨2, 1⟩, ⟨3, 1⟩, ⟨1, 1⟩] from rfl] at h7
  clear h5 h6
  go_wp2_with fail
  refine (st_one h7 1).mono ?_
  rintro e w8 ⟨rfl, h8⟩
  go_wp2_with fail
  refine (st_index h8 ⟨1, 1⟩ (ok_small _ _ (by decide)) (by decide)).mono ?_
  rintro e w9 ⟨he, h9⟩
  obtain rfl : e = .returned (.tuple #[.int .i64 2, .bool true]) := by
    rcases he with ⟨a, _⟩ | ⟨i, a, b⟩
    · exact absurd a (by decide)
    · match i, a, b with
      | 2, _, b => exact b
      | 0, a, _ => exact absurd a (by decide)
      | 1, a, _ => exact absurd a (by decide)
      | k + 3, a, _ => simp at a
  clear he h8
  go_wp2_with fail
  refine (st_at h9 1 (by decide)).mono ?_
  rintro e w10 ⟨he, h10⟩
  obtain rfl : e = .returned (.tuple #[.agg #[.int .i64 3, .int .u64 1], .bool true]) := by
    rcases he with ⟨a, _⟩ | ⟨i, h, a, b, c⟩
    · exact absurd (by decide) a
    · obtain rfl : i = 1 := by omega
      cases b
      exact c
  clear he h9
  go_wp2_with fail
  have h11 := (h10.box ⟨3, 1⟩).drew
  clear h10
  generalize hW : (w10.alloc (Obj.cells #[Value.int IntKind.i64 3, Value.int IntKind.u64 1] 34)) = W at h11 ⊢
  refine wp_region_quiet_cls (St w0 tb [⟨2, 1⟩, ⟨3, 1⟩, ⟨1, 1⟩] [(w10.heap.size, ⟨3, 1⟩)]) (by kernel_rfl) (by kernel_rfl) h11 ?_
  have hb0 : ∀ p : Cls (St w0 tb [⟨2, 1⟩, ⟨3, 1⟩, ⟨1, 1⟩] [(w10.heap.size, ⟨3, 1⟩)]), p.W.cell? ⟨w10.heap.size, 0, .none⟩ = some (.int .i64 3) := fun p => (p.h.hbox (b := w10.heap.size) (x := ⟨3, 1⟩) (by simp)).c0
  have hb1 : ∀ p : Cls (St w0 tb [⟨2, 1⟩, ⟨3, 1⟩, ⟨1, 1⟩] [(w10.heap.size, ⟨3, 1⟩)]), p.W.cell? ⟨w10.heap.size, 1, .none⟩ = some (.int .u64 1) := fun p => (p.h.hbox (b := w10.heap.size) (x := ⟨3, 1⟩) (by simp)).c1
  haveI : Nonempty (Cls (St w0 tb [⟨2, 1⟩, ⟨3, 1⟩, ⟨1, 1⟩] [(w10.heap.size, ⟨3, 1⟩)])) := ⟨⟨_, h11⟩⟩
  have i1 : ∀ p : Cls (St w0 tb [⟨2, 1⟩, ⟨3, 1⟩, ⟨1, 1⟩] [(w10.heap.size, ⟨3, 1⟩)]), Calls Try.prog 14 #[.pointer (some ⟨tb, 0, .none⟩), .int .i64 0, .agg #[.int .i64 3, .int .u64 1]] p.W fun e w' => e = .returned (.int .i64 7) ∧ ∃ q : Cls (St w0 tb [⟨2, 1⟩, ⟨3, 1⟩, ⟨1, 1⟩] [(w10.heap.size, ⟨3, 1⟩)]), w' = q.W := fun p => Calls.cls (st_insert p.h 0 ⟨3, 1⟩ (ok_small _ _ (by decide)) (by decide))
  have i2 : ∀ p : Cls (St w0 tb [⟨2, 1⟩, ⟨3, 1⟩, ⟨1, 1⟩] [(w10.heap.size, ⟨3, 1⟩)]), Calls Try.prog 14 #[.pointer (some ⟨tb, 0, .none⟩), .int .i64 4, .agg #[.int .i64 4, .int .u64 1]] p.W fun e w' => e = .returned (.int .i64 2) ∧ ∃ q : Cls (St w0 tb [⟨2, 1⟩, ⟨3, 1⟩, ⟨1, 1⟩] [(w10.heap.size, ⟨3, 1⟩)]), w' = q.W := fun p => Calls.cls (st_insert p.h 4 ⟨4, 1⟩ (ok_small _ _ (by decide)) (by decide))
  have i3 : ∀ p : Cls (St w0 tb [⟨2, 1⟩, ⟨3, 1⟩, ⟨1, 1⟩] [(w10.heap.size, ⟨3, 1⟩)]), Calls Try.prog 22 #[.pointer (some ⟨tb, 0, .none⟩)] p.W fun e w' => e = .returned (.int .i64 3) ∧ ∃ q : Cls (St w0 tb [⟨2, 1⟩, ⟨3, 1⟩, ⟨1, 1⟩] [(w10.heap.size, ⟨3, 1⟩)]), w' = q.W := fun p => Calls.cls ((st_len p.h).mono fun e w h => ⟨h.1, h.2 ▸ p.h⟩)
  repeat (go_big_quiet_step (first
    | (go_at_call 19; exact Calls.cls (st_one (Cls.h _) _))
    | (go_at_call 22; with_reducible exact i3 _)
    | (go_at_call 14; with_reducible first | exact i1 _ | exact i2 _)))
  refine wpQuiet_nil ?_
  intro w11 h12
  go_wp2
  go_ret
  exact ⟨rfl, h12.below⟩
end Go.Proofs.Ytimhbnlgambcaaa
