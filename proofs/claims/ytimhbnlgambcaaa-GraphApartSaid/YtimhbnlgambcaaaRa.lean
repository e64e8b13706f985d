/- The reference's list of handles in memory; the walk of its At. -/
import Derived.Test.YtimhbnlgambcaaaLc
import Derived.Laws.OwnMore
namespace Go.Proofs.Ytimhbnlgambcaaa
open Go.RowKit Go.BigFrame

/-- At block rb lies the reference's list L; its row, if there is one, lies at B or above. -/
def RL (w : World) (B rb : Nat) (L : List Hd) : Prop := ∃ v, w.heap[rb]? = some (.cells #[v] 31 (0, 0)) ∧ w.ownsRow B 34 2 v L.length (flatH L)

theorem flatH_at : ∀ {L : List Hd} {i : Nat} {h : Hd}, L[i]? = some h → (flatH L)[i * 2]? = some (.int .i64 h.s) ∧ (flatH L)[i * 2 + 1]? = some (.int .u64 h.g)
  | a :: L, 0, h, e => by
    simp at e
    subst e
    exact ⟨rfl, rfl⟩
  | a :: L, i + 1, h, e => by
    have := flatH_at (L := L) (i := i) (h := h) (by simpa using e)
    have e1 : (i + 1) * 2 = i * 2 + 1 + 1 := by omega
    rw [e1]
    exact this

theorem RL.shape {w : World} {B rb : Nat} {L : List Hd} (h : RL w B rb L) : ∃ a cap, w.cell? ⟨rb, 0, .none⟩ = some (.slice a L.length cap) ∧ rb < w.heap.size ∧
    ∀ i x, L[i]? = some x → ∃ g, a = some ⟨g, 0, .none⟩ ∧ g < w.heap.size ∧ w.cell? ⟨g, i * 2, .none⟩ = some (.int .i64 x.s) ∧ w.cell? ⟨g, i * 2 + 1, .none⟩ = some (.int .u64 x.g) := by
  obtain ⟨v, hb, hr⟩ := h
  cases hL : L.length with
  | zero =>
    rw [hL] at hr
    rcases hr.2 with ⟨rfl, _⟩ | ⟨g, cap, cur, rfl, _⟩
    · refine ⟨.none, 0, by simp [World.cell?, hb], lt_of_block hb, fun i x hx => ?_⟩
      rw [List.length_eq_zero_iff.1 hL] at hx
      simp at hx
    · refine ⟨some ⟨g, 0, .none⟩, cap, by simp [World.cell?, hb], lt_of_block hb, fun i x hx => ?_⟩
      rw [List.length_eq_zero_iff.1 hL] at hx
      simp at hx
  | succ n =>
    rw [hL] at hr
    obtain ⟨g, cap, rfl⟩ := ownsRow_succ hr
    refine ⟨some ⟨g, 0, .none⟩, cap, by simp [World.cell?, hb], lt_of_block hb, fun i x hx => ?_⟩
    have hi := (List.getElem?_eq_some_iff.1 hx).1
    have h1 := hr.cellAt (i * 2) (by omega)
    have h2 := hr.cellAt (i * 2 + 1) (by omega)
    rw [(flatH_at hx).1] at h1
    rw [(flatH_at hx).2] at h2
    exact ⟨g, rfl, (hr.lt g rfl).2, h1, h2⟩

theorem Kp.cell {R : Nat → Prop} {w w' : World} (h : Kp R w w') {p : Addr} (hp : p.block < w.heap.size) (hn : ¬ R p.block) : w'.cell? p = w.cell? p := World.cell?_of_block (w := w) (h.block p.block hp hn)

set_option maxRecDepth 100000 in
set_option maxHeartbeats 2000000 in
theorem ref_at (w : World) (B rb : Nat) (L : List Hd) (hR : RL w B rb L) (h : Hd) (small : L.length ≤ 100000) :
    Calls Try.prog 11 #[.pointer (some ⟨rb, 0, .none⟩), .agg #[.int .i64 h.s, .int .u64 h.g]] w fun e w' =>
      ((h ∉ L ∧ e = .returned (.int .i64 (-1))) ∨ ∃ i : Nat, L[i]? = some h ∧ e = .returned (.int .i64 i)) ∧ Kp (fun _ => False) w w' := by
  obtain ⟨a, cap, hc, hlt, hg⟩ := hR.shape
  have hs : (L.length : Int) ≤ 100000 := by omega
  go_enter Try.func11, Try.ntmps11
  go_wp2_with fail
  have hbx : HBox (w.alloc (Obj.cells #[Value.int IntKind.i64 h.s, Value.int IntKind.u64 h.g] 34)) w.heap.size h := heap_alloc_new _ _
  have hK : Kp (fun _ => False) w (w.alloc (Obj.cells #[Value.int IntKind.i64 h.s, Value.int IntKind.u64 h.g] 34)) := (Kp.refl _ _).alloc _
  have hc1 := (hK.cell (p := ⟨rb, 0, .none⟩) hlt (fun h => h)).trans hc
  have hlt1 := Nat.lt_of_lt_of_le hlt hK.size
  have hg1 : ∀ i x, L[i]? = some x → ∃ g, a = some ⟨g, 0, .none⟩ ∧ g < (w.alloc (Obj.cells #[Value.int IntKind.i64 h.s, Value.int IntKind.u64 h.g] 34)).heap.size ∧ (w.alloc (Obj.cells #[Value.int IntKind.i64 h.s, Value.int IntKind.u64 h.g] 34)).cell? ⟨g, i * 2, .none⟩ = some (.int .i64 x.s) ∧ (w.alloc (Obj.cells #[Value.int IntKind.i64 h.s, Value.int IntKind.u64 h.g] 34)).cell? ⟨g, i * 2 + 1, .none⟩ = some (.int .u64 x.g) := by
    intro i x hx
    obtain ⟨g, h1, h2, h3, h4⟩ := hg i x hx
    exact ⟨g, h1, Nat.lt_of_lt_of_le h2 hK.size, (hK.cell (p := ⟨g, i * 2, .none⟩) h2 (fun h => h)).trans h3, (hK.cell (p := ⟨g, i * 2 + 1, .none⟩) h2 (fun h => h)).trans h4⟩
  obtain ⟨bx, hbxe⟩ : ∃ bx, w.heap.size = bx := ⟨_, rfl⟩
  simp only [hbxe] at hbx ⊢
  generalize w.alloc (Obj.cells #[Value.int IntKind.i64 h.s, Value.int IntKind.u64 h.g] 34) = W at hbx hK hc1 hlt1 hg1 ⊢
  clear hc hlt hg hR hbxe
  go_loopg [5] L.length (fun k v wr => ∃ i : Nat, v = .int .i64 i ∧ i + k = L.length ∧ (∀ j, j < i → L[j]? ≠ some h) ∧ Kp (fun _ => False) W wr)
  case atStart => exact ⟨0, rfl, by omega, fun j hj => absurd hj (by omega), Kp.refl _ _⟩
  case round =>
    obtain ⟨i, rfl, hik, hno, hk⟩ := hrel
    have c1 := (hk.cell (p := ⟨rb, 0, .none⟩) hlt1 (fun h => h)).trans hc1
    have b0 := (hbx.kp hk (fun h => h)).c0
    have b1 := (hbx.kp hk (fun h => h)).c1
    have hKw := Lib.hid (hK.trans hk)
    have hnh := Lib.hid hno
    clear hno hc1 hbx
    cases gk with
    | zero =>
      have hi : ¬ (i : Int) < L.length := by omega
      clear hg1
      go_wp2_with fail
      go_ret
      refine ⟨.inl ⟨fun hm => ?_, rfl⟩, hKw.out⟩
      obtain ⟨j, hj⟩ := List.getElem?_of_mem hm
      exact hnh.out j (by have := (List.getElem?_eq_some_iff.1 hj).1; omega) hj
    | succ gk =>
      have hi : (i : Int) < L.length := by omega
      obtain ⟨x, hx⟩ : ∃ x, L[i]? = some x := ⟨_, List.getElem?_eq_getElem (by omega)⟩
      obtain ⟨g, rfl, hgl, d0, d1⟩ := hg1 i x hx
      have e0 := (hk.cell (p := ⟨g, i * 2, .none⟩) hgl (fun h => h)).trans d0
      have e1 := (hk.cell (p := ⟨g, i * 2 + 1, .none⟩) hgl (fun h => h)).trans d1
      have hxh := Lib.hid hx
      clear hx d0 d1 hg1
      go_wp2_with fail
      have hkh := Lib.hid hk
      clear hk
      by_cases hs1 : x.s = h.s
      · rw [hs1] at e0
        by_cases hg2 : x.g = h.g
        · rw [hg2] at e1
          go_quiet (fail)
          go_wp2_with fail
          go_ret
          obtain rfl : x = h := by cases x; cases h; simp_all
          exact ⟨.inr ⟨i, hxh.out, rfl⟩, hKw.out.drewN _⟩
        · go_quiet (fail)
          go_wp2_with fail
          go_roundg gk
          case measure => omega
          case rel =>
            refine ⟨i + 1, by push_cast; rfl, by omega, fun j hj e => ?_, hkh.out.drewN _⟩
            by_cases hji : j = i
            · subst hji
              have := hxh.out
              rw [e] at this
              cases this
              exact hg2 rfl
            · exact hnh.out j (by omega) e
      · go_quiet (fail)
        go_wp2_with fail
        go_roundg gk
        case measure => omega
        case rel =>
          refine ⟨i + 1, by push_cast; rfl, by omega, fun j hj e => ?_, hkh.out.drewN _⟩
          by_cases hji : j = i
          · subst hji
            have := hxh.out
            rw [e] at this
            cases this
            exact hs1 rfl
          · exact hnh.out j (by omega) e
end Go.Proofs.Ytimhbnlgambcaaa
