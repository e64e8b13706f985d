/- Regions that draw, over whatever class of worlds; the walks of one and Digits. -/
import Derived.Test.YtimhbnlgambcaaaTK
namespace Go.Proofs.Ytimhbnlgambcaaa
open Go.RowKit

/-- A world of the class C, as one thing. -/
structure Cls (C : World → Prop) where
  W : World
  h : C W

theorem wp_region_quiet_cls {P : Program} {id : Nat} {Q : Exit → Act → World → Prop} {a : Act} {w : World} {l : List Oper} (C : World → Prop) (hm : P.follows .mixedOrders = true) (hB : Region.lexB .any l.toArray = true) (hC : C w.drew)
    (h : wpQuiet P l.toArray (fun w' => ∃ p : Cls C, w' = p.W) (fun a' => ∀ w', C w' → Q .normal a' w') l a) : (Code.region id l.toArray true).wp P Q a w :=
  wp_region_quiet (C := fun w' => ∃ p : Cls C, w' = p.W) hm hB ⟨⟨_, hC⟩, rfl⟩ (by
    have e : (fun a' => ∀ w', (∃ p : Cls C, w' = p.W) → Q .normal a' w') = fun a' => ∀ w', C w' → Q .normal a' w' := by
      funext a'
      exact propext ⟨fun h w' hc => h w' ⟨⟨w', hc⟩, rfl⟩, fun h w' ⟨p, hp⟩ => h w' (hp ▸ p.h)⟩
    simp only [e]
    exact h)

theorem Calls.cls {P : Program} {C : World → Prop} {f : FuncId} {args : Array Value} {p : Cls C} {v : Value} (h : Calls P f args p.W fun e w' => e = .returned v ∧ C w') :
    Calls P f args p.W fun e w'' => e = .returned v ∧ ∃ q : Cls C, w'' = q.W :=
  h.mono fun _ w' ⟨he, hb⟩ => ⟨he, ⟨w', hb⟩, rfl⟩

theorem one_any (n : Int) (w : World) : Calls Try.prog 19 #[.int .i64 n] w fun e w' => e = .returned (.agg #[.int .i64 n, .int .u64 1]) ∧ Kp (fun _ => False) w w' := by
  go_enter Try.func19, Try.ntmps19
  go_wp2_with fail
  (try simp only [Exit.inBlock, Exit.then])
  refine bodyPost_ret (v := .agg #[.int .i64 n, .int .u64 1]) ?_ rfl ⟨rfl, ?_⟩
  · rw [results_cell_row rfl _ _ w.heap.size 34 #[.int .i64 n, .int .u64 1] (0, 0) _ rfl (heap_alloc_new _ _) Try.underlying34 rfl (by kernel_rfl)]
  · exact (Kp.refl _ _).alloc _

def digs (n : Nat) : Nat := if h : n = 0 then 0 else digs (n / 2) + 1
decreasing_by omega

theorem digs_pow : ∀ k n : Nat, 2 ^ k ≤ n → k < digs n
  | 0, n, h => by
    unfold digs
    rw [dif_neg (by have : 2 ^ 0 = 1 := rfl; omega)]
    omega
  | k + 1, n, h => by
    have e : 2 ^ (k + 1) = 2 ^ k * 2 := Nat.pow_succ ..
    have := digs_pow k (n / 2) (by omega)
    have : 1 ≤ 2 ^ k := Nat.one_le_two_pow
    unfold digs
    rw [dif_neg (by omega)]
    omega
theorem digs_le : ∀ k n : Nat, n < 2 ^ k → digs n ≤ k
  | 0, n, h => by
    have : 2 ^ 0 = 1 := rfl
    unfold digs
    rw [dif_pos (by omega)]
    omega
  | k + 1, n, h => by
    have e : 2 ^ (k + 1) = 2 ^ k * 2 := Nat.pow_succ ..
    have := digs_le k (n / 2) (by omega)
    unfold digs
    split
    · omega
    · omega

set_option maxRecDepth 100000 in
set_option maxHeartbeats 1000000 in
theorem digits_any (n : Nat) (hn : n < 2 ^ 40) (w : World) : Calls Try.prog 21 #[.int .i64 n] w fun e w' => e = .returned (.int .i64 (digs n)) ∧ w' = w := by
  have hd := digs_le 40 n hn
  go_enter Try.func21, Try.ntmps21
  go_wp2_with fail
  go_loopg [0, 3] (digs n) (fun k v v3 wr => ∃ m : Nat, v = .int .i64 m ∧ v3 = .int .i64 ((digs n : Int) - k) ∧ digs m = k ∧ m < 2 ^ 40 ∧ w = wr)
  case atStart => exact ⟨n, rfl, by congr 1; omega, rfl, hn, rfl⟩
  case round =>
    obtain ⟨m, rfl, rfl, hm, hm2, rfl⟩ := hrel
    unfold digs at hm
    split at hm
    · rename_i h0
      subst h0 hm
      go_wp2_with fail
      go_ret
      exact ⟨by simp, rfl⟩
    · cases gk with
      | zero => omega
      | succ gk =>
      have hpos : (0 : Int) < m := by omega
      have hd0 : (0 : Int) ≤ (digs n : Int) := by omega
      have hd1 : (digs n : Int) ≤ 40 := by omega
      have hd2 : (0 : Int) ≤ (gk : Int) := by omega
      have hd3 : (gk : Int) ≤ 40 := by have := digs_le 40 m hm2; unfold digs at this; split at this <;> omega
      go_wp2_with fail
      go_roundg gk
      case measure => omega
      case rel => exact ⟨m / 2, by simp, by congr 1; omega, by omega, by omega, rfl⟩
end Go.Proofs.Ytimhbnlgambcaaa
