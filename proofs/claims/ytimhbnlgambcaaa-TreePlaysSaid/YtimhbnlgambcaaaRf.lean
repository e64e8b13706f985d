/- The walk of TreePlays. -/
import Derived.Test.YtimhbnlgambcaaaRe
import Derived.Deep.RegionHeld3
namespace Go.Proofs.Ytimhbnlgambcaaa
open Go.RowKit Go.BigFrame

theorem at_not {L : List Hd} {p : Int} {y : Hd} (h : AtOf L p y true) : ¬ AtOf L p y false := by
  rintro (⟨_, _, _, e⟩ | ⟨h1, _, _⟩)
  · cases e
  · rcases h with ⟨k, hk, hk2, _⟩ | ⟨_, _, e⟩
    · have := (List.getElem?_eq_some_iff.1 hk2).1
      omega
    · cases e
theorem at_zero {L : List Hd} {p : Int} {y : Hd} (h : AtOf L p y false) : y = ⟨0, 0⟩ := by
  rcases h with ⟨_, _, _, e⟩ | ⟨_, h, _⟩
  · cases e
  · exact h

set_option maxRecDepth 100000 in
set_option maxHeartbeats 40000000 in
theorem treePlays_walk (a : Option Addr) (len cap : Nat) (w : World) (hin : IsSteps w a len) :
    Calls Try.prog 3 #[.slice a len cap] w fun e w' => e = .returned (.bool true) ∧ Below w.heap.size w w' := by
  by_cases g1 : 200 < len
  · go_enter Try.func3, Try.ntmps3
    go_wp2_with fail
    refine (works_any w w (Below.refl _ _)).mono ?_
    rintro e w3 ⟨rfl, h3⟩
    go_wp2_with fail
    go_ret
    exact ⟨rfl, h3⟩
  have g2 : (len : Int) ≤ 200 := by omega
  go_enter Try.func3, Try.ntmps3
  go_wp2_with fail
  refine (tree_new w).mono ?_
  rintro e w1 ⟨tb, S, rfl, hT, hS, hk⟩
  go_wp2_with fail
  have h0 : PL w tb w1.heap.size [] [] [] (w1.alloc (.cells #[.slice none 0 0] 31)) := by
    have hb : Below w.heap.size w w1 := hk.below (Nat.le_refl _) (fun _ h => h.elim)
    refine ⟨S, .slice none 0 0, hT.alloc _, hS, hb.alloc hb.size _, hb.size, heap_alloc_new _ _, World.ownsRow_nil _ _ _ _, fun h => Nat.lt_irrefl _ (hT.lt h), by simp [Value.ownBlock], by simp⟩
  obtain ⟨rb, hrb⟩ : ∃ rb, w1.heap.size = rb := ⟨_, rfl⟩
  simp only [hrb] at h0 ⊢
  generalize w1.alloc (Obj.cells #[Value.slice none 0 0] 31) = W0 at h0 ⊢
  clear hT hS hk hrb
  go_loopg [5] len (fun k v wr => ∃ i : Nat, v = .int .i64 i ∧ i + k = len ∧ ∃ L, PL w tb rb L L [] wr ∧ L.length ≤ i)
  case atStart => exact ⟨0, rfl, by omega, [], h0, by simp⟩
  case round =>
    obtain ⟨i, rfl, hik, L, hP, hL⟩ := hrel
    clear h0
    cases gk with
    | zero =>
      have hi : ¬ (i : Int) < len := by omega
      go_wp2_with fail
      refine (works_any w wr hP.below).mono ?_
      rintro e w3 ⟨rfl, h3⟩
      go_wp2_with fail
      go_ret
      exact ⟨rfl, h3⟩
    | succ gk =>
    have hi : (i : Int) < len := by omega
    obtain ⟨b, o, rm, p, h, rfl, hok, hpw, hcell⟩ := hin i (by omega)
    obtain ⟨c0, c1, c2, c3⟩ := hcell wr hP.below
    have cl := block_lt_of_cell c0
    simp only at cl
    have hLb : (L.length : Int) ≤ 200 := by omega
    clear hcell
    go_wp2_with fail
    have h6 := hP.box (sob rm p h)
    unfold sob at h6
    obtain ⟨B6, hB6⟩ : ∃ B, wr.heap.size = B := ⟨_, rfl⟩
    simp only [hB6] at h6 ⊢
    generalize wr.alloc (Obj.cells #[Value.bool rm, Value.int IntKind.i64 p, Value.int IntKind.i64 h.s, Value.int IntKind.u64 h.g] 36) = W6 at h6 ⊢
    clear hP hB6 c0 c1 c2 c3 cl
    have s0 := sob_c0 (h6.obox (b := B6) (x := sob rm p h) (by simp [sob]))
    have s1 := sob_c1 (h6.obox (b := B6) (x := sob rm p h) (by simp [sob]))
    have s2 := sob_c2 (h6.obox (b := B6) (x := sob rm p h) (by simp [sob]))
    have s3 := sob_c3 (h6.obox (b := B6) (x := sob rm p h) (by simp [sob]))
    obtain ⟨r, n, is, hpos⟩ := PosOf.of L h
    have hph := Lib.hid hpos
    clear hpos
    go_region_with (go_at_call 11; refine (pl_pos h6.drew h6.nodup hph.out (by omega)).mono ?_; rintro e w7 ⟨rfl, k7⟩)
    have h7 := h6.drew.kp k7
    clear h6 s0 s1 s2 s3 k7
    have s0 := sob_c0 (h7.obox (b := B6) (x := sob rm p h) (by simp [sob]))
    have s1 := sob_c1 (h7.obox (b := B6) (x := sob rm p h) (by simp [sob]))
    have s2 := sob_c2 (h7.obox (b := B6) (x := sob rm p h) (by simp [sob]))
    have s3 := sob_c3 (h7.obox (b := B6) (x := sob rm p h) (by simp [sob]))
    have h3 : rm = false ∨ (rm = true ∧ ∃ k : Nat, L[k]? = some h ∧ r = k ∧ n = k ∧ is = true) ∨ (rm = true ∧ h ∉ L ∧ r = -1 ∧ n = 0 ∧ is = false) := by
      cases rm with
      | false => exact .inl rfl
      | true => exact .inr (hph.out.imp (fun h => ⟨rfl, h⟩) (fun h => ⟨rfl, h⟩))
    rcases h3 with hrm | ⟨hrm, k, hk, rfl, rfl, rfl⟩ | ⟨hrm, hn, rfl, rfl, rfl⟩
    case' inl =>
      rw [hrm] at s0
      have hrmh := Lib.hid hrm
      clear hrm
      go_wp2_with fail
      go_region_held3 (fun w' => w'.cell? ⟨B6, 1, .none⟩ = some (.int .i64 p) ∧ w'.cell? ⟨B6, 2, .none⟩ = some (.int .i64 h.s) ∧ w'.cell? ⟨B6, 3, .none⟩ = some (.int .u64 h.g))
        (first | exact ⟨s1, s2, s3⟩ | exact ⟨sob_c1 (h8.obox (b := B6) (x := sob rm p h) (by simp [sob])), sob_c2 (h8.obox (b := B6) (x := sob rm p h) (by simp [sob])), sob_c3 (h8.obox (b := B6) (x := sob rm p h) (by simp [sob]))⟩ | exact ⟨sob_c1 (h9.obox (b := B6) (x := sob rm p h) (by simp [sob])), sob_c2 (h9.obox (b := B6) (x := sob rm p h) (by simp [sob])), sob_c3 (h9.obox (b := B6) (x := sob rm p h) (by simp [sob]))⟩)
        (first | (go_at_call 14; refine (pl_insert h7.drew p h hok (by omega)).mono ?_; rintro e w8 ⟨rfl, h8⟩) | (go_at_call 15; refine (pl_ref_insert h8 p h h7.nodup (by omega)).mono ?_; rintro e w9 ⟨rfl, h9⟩))
      have hlen : (insList L p h).length ≤ i + 1 := by have := insList_len L p h; omega
      generalize insList L p h = L2 at h9 hlen
      clear h8 h7 s0 s1 s2 s3 hph
      have s0 := sob_c0 (h9.obox (b := B6) (x := sob rm p h) (by simp [sob]))
      have s1 := sob_c1 (h9.obox (b := B6) (x := sob rm p h) (by simp [sob]))
      have s2 := sob_c2 (h9.obox (b := B6) (x := sob rm p h) (by simp [sob]))
      have s3 := sob_c3 (h9.obox (b := B6) (x := sob rm p h) (by simp [sob]))
      go_wp2_with fail
    case' inr.inl =>
      rw [hrm] at s0
      have hrmh := Lib.hid hrm
      clear hrm
      have hkl : k < L.length := (List.getElem?_eq_some_iff.1 hk).1
      have hk0 : (0 : Int) ≤ k := by omega
      have hkh := Lib.hid hk
      clear hk hph
      go_wp2_with fail
      refine (pl_remove_in h7 hkh.out (by omega)).mono ?_
      rintro e w8 ⟨rfl, h8⟩
      clear s0 s1 s2 s3
      go_wp2_with fail
      refine (pl_cut h8 k h hkh.out (by omega)).mono ?_
      rintro e w9 ⟨rfl, h9⟩
      have hlen : (L.take k ++ L.drop (k + 1)).length ≤ i + 1 := by simp; omega
      generalize L.take k ++ L.drop (k + 1) = L2 at h9 hlen
      clear h8 h7 hkh hkl hk0
      have s0 := sob_c0 (h9.obox (b := B6) (x := sob rm p h) (by simp [sob]))
      have s1 := sob_c1 (h9.obox (b := B6) (x := sob rm p h) (by simp [sob]))
      have s2 := sob_c2 (h9.obox (b := B6) (x := sob rm p h) (by simp [sob]))
      have s3 := sob_c3 (h9.obox (b := B6) (x := sob rm p h) (by simp [sob]))
      go_wp2_with fail
    case' inr.inr =>
      rw [hrm] at s0
      have hrmh := Lib.hid hrm
      clear hrm
      have hnh := Lib.hid hn
      clear hn hph
      go_wp2_with fail
      refine (pl_remove_out h7 hnh.out hok (by omega)).mono ?_
      rintro e w9 ⟨rfl, h9⟩
      have hlen : L.length ≤ i + 1 := by omega
      obtain ⟨L2, hL2⟩ : ∃ L2, L = L2 := ⟨_, rfl⟩
      rw [hL2] at h9 hlen
      clear h7 s0 s1 s2 s3 hnh hL2
      have s0 := sob_c0 (h9.obox (b := B6) (x := sob rm p h) (by simp [sob]))
      have s1 := sob_c1 (h9.obox (b := B6) (x := sob rm p h) (by simp [sob]))
      have s2 := sob_c2 (h9.obox (b := B6) (x := sob rm p h) (by simp [sob]))
      have s3 := sob_c3 (h9.obox (b := B6) (x := sob rm p h) (by simp [sob]))
      go_wp2_with fail
    all_goals as_aux_lemma =>
      clear hrmh hLb hL s0 s2 s3
      obtain ⟨y, is2, hat⟩ := AtOf.of L2 p
      obtain ⟨r2, n2, is3, hp2⟩ := PosOf.of L2 h
      have hat' := Lib.hid hat
      have hp' := Lib.hid hp2
      have hLb : (L2.length : Int) ≤ 201 := by omega
      clear hat hp2
      refine (pl_at_of h9 hat'.out (by omega)).mono ?_
      rintro e w10 ⟨rfl, h10, k10⟩
      clear h9 k10 s1
      have s0 := sob_c0 (h10.obox (b := B6) (x := sob rm p h) (by simp [sob]))
      have s1 := sob_c1 (h10.obox (b := B6) (x := sob rm p h) (by simp [sob]))
      have s2 := sob_c2 (h10.obox (b := B6) (x := sob rm p h) (by simp [sob]))
      have s3 := sob_c3 (h10.obox (b := B6) (x := sob rm p h) (by simp [sob]))
      go_wp2_with fail
      have h11 := h10.box (.cells #[.int .i64 y.s, .int .u64 y.g] 34)
      obtain ⟨B10, hB10⟩ : ∃ B, w10.heap.size = B := ⟨_, rfl⟩
      simp only [hB10] at h11 ⊢
      generalize w10.alloc (Obj.cells #[Value.int IntKind.i64 y.s, Value.int IntKind.u64 y.g] 34) = W11 at h11 ⊢
      clear h10 hB10 s0 s1 s2 s3
      have s1 := sob_c1 (h11.obox (b := B6) (x := sob rm p h) (by simp [sob]))
      obtain ⟨a', cap', hc', hlt', _⟩ := h11.rl.shape
      rcases hat'.out with ⟨k2, hpk, hk2, rfl⟩ | ⟨hno, hy0, rfl⟩
      case' inl =>
        have hk2l : k2 < L2.length := (List.getElem?_eq_some_iff.1 hk2).1
        have hp0 : 0 ≤ p := by omega
        have hp1 : p < L2.length := by omega
        have hk2h := Lib.hid hk2
        have hpkh := Lib.hid hpk
        clear hk2 hpk
        go_quiet (fail)
      case' inr =>
        by_cases hp0 : 0 ≤ p
        case' pos =>
          have hp1 : ¬ p < L2.length := by omega
          have hnoh := Lib.hid hno
          clear hno
          go_quiet (fail)
        case' neg =>
          have hp0' : decide (0 ≤ p) = false := by simpa using hp0
          have hnoh := Lib.hid hno
          clear hno
          go_quiet (fail)
      all_goals
        have h12 := h11.drewN nq
        clear h11 s1 hc' hlt'
        have s2 := sob_c2 (h12.obox (b := B6) (x := sob rm p h) (by simp [sob]))
        have s3 := sob_c3 (h12.obox (b := B6) (x := sob rm p h) (by simp [sob]))
        go_wp2_with fail
        as_aux_lemma =>
          refine (pl_index_pos h12 hok hp'.out (by omega)).mono ?_
          rintro e w13 ⟨rfl, h13, k13⟩
          clear h12 k13 s2 s3
          have sl : B6 < w13.drew.heap.size := (h13.drew.obox (b := B6) (x := sob rm p h) (by simp [sob])).lt
          have s2 := sob_c2 (h13.obox (b := B6) (x := sob rm p h) (by simp [sob]))
          have s3 := sob_c3 (h13.obox (b := B6) (x := sob rm p h) (by simp [sob]))
          go_wp2_with fail
          go_region_held3 (fun w' => w'.cell? ⟨B6, 2, .none⟩ = some (.int .i64 h.s) ∧ w'.cell? ⟨B6, 3, .none⟩ = some (.int .u64 h.g))
            (first | exact ⟨s2, s3⟩ | exact ⟨(k14.cell (p := ⟨B6, 2, .none⟩) sl (fun h => h)).trans s2, (k14.cell (p := ⟨B6, 3, .none⟩) sl (fun h => h)).trans s3⟩)
            (first | (go_at_call 11; refine (pl_pos h13.drew h13.nodup hp'.out (by omega)).mono ?_; rintro e w14 ⟨rfl, k14⟩))
          have h14 := h13.drew.kp k14
          clear h13 k14 s2 s3 sl
          go_wp2_with fail
          have j18 : ∀ q : Cls (Kp (fun _ => False) w14), Calls Try.prog 18 #[.pointer (some ⟨tb, 0, .none⟩), .pointer (some ⟨rb, 0, .none⟩)] q.W fun e w' => e = .returned (.bool true) ∧ ∃ r : Cls (Kp (fun _ => False) w14), w' = r.W :=
            fun q => Calls.cls ((alike_any w q.W tb rb L2 _ (h14.kp q.h) (by omega)).mono fun e w h => ⟨h.1, q.h.trans h.2.2⟩)
          have b0 : ∀ q : Cls (Kp (fun _ => False) w14), q.W.cell? ⟨B10, 0, .none⟩ = some (.int .i64 y.s) := fun q => HBox.c0 ((h14.kp q.h).obox (b := B10) (by simp))
          have b1 : ∀ q : Cls (Kp (fun _ => False) w14), q.W.cell? ⟨B10, 1, .none⟩ = some (.int .u64 y.g) := fun q => HBox.c1 ((h14.kp q.h).obox (b := B10) (by simp))
          have t1 : ∀ q : Cls (Kp (fun _ => False) w14), q.W.cell? ⟨B6, 1, .none⟩ = some (.int .i64 p) := fun q => sob_c1 ((h14.kp q.h).obox (b := B6) (x := sob rm p h) (by simp [sob]))
          obtain ⟨a', cap', hc', hlt', hg'⟩ := h14.rl.shape
          have hcq : ∀ q : Cls (Kp (fun _ => False) w14), q.W.cell? ⟨rb, 0, .none⟩ = some (.slice a' L2.length cap') := fun q => (q.h.cell (p := ⟨rb, 0, .none⟩) hlt' (fun h => h)).trans hc'
          haveI : Nonempty (Cls (Kp (fun _ => False) w14)) := ⟨⟨_, Kp.refl _ w14⟩⟩
          have hrow : (∃ g, a' = some ⟨g, 0, .none⟩ ∧ 0 ≤ p ∧ p < L2.length ∧ AtOf L2 p y true ∧ (∀ q : Cls (Kp (fun _ => False) w14), q.W.cell? ⟨g, p.toNat * 2, .none⟩ = some (.int .i64 y.s)) ∧ ∀ q : Cls (Kp (fun _ => False) w14), q.W.cell? ⟨g, p.toNat * 2 + 1, .none⟩ = some (.int .u64 y.g)) ∨ AtOf L2 p y false := by
            rcases hat'.out with ⟨k2, hpk, hk2, _⟩ | ⟨h1, h2, _⟩
            · obtain ⟨g, ha, hgl, r0, r1⟩ := hg' k2 y hk2
              have hk2l := (List.getElem?_eq_some_iff.1 hk2).1
              have e2 : p.toNat = k2 := by omega
              rw [e2]
              exact .inl ⟨g, ha, by omega, by omega, .inl ⟨k2, hpk, hk2, rfl⟩, fun q => (q.h.cell (p := ⟨g, k2 * 2, .none⟩) hgl (fun h => h)).trans r0, fun q => (q.h.cell (p := ⟨g, k2 * 2 + 1, .none⟩) hgl (fun h => h)).trans r1⟩
            · exact .inr (.inr ⟨h1, h2, rfl⟩)
          clear hg'
          rcases hp'.out with ⟨k3, hk3, rfl, rfl, rfl⟩ | ⟨hn3, rfl, rfl, rfl⟩
          case' inl =>
            have hk30 : (0 : Int) ≤ k3 := by omega
            clear hk3
          case' inr =>
            clear hn3
          all_goals
            clear hp'
            first
              | (have htrue : AtOf L2 p y true := hat'.out
                 clear hat' hk2h hpkh
                 obtain ⟨g, rfl, hp0', hp1', _, r0, r1⟩ := hrow.resolve_right (at_not htrue)
                 clear hrow htrue
                 refine wp_region_quiet_cls (Kp (fun _ => False) w14) (by kernel_rfl) (by kernel_rfl) (Kp.refl _ w14).drew ?_
                 repeat (go_big_quiet_step (first
                   | (go_at_call 18; with_reducible exact j18 _))))
              | (obtain rfl := at_zero hat'.out
                 clear hrow hat' hnoh
                 refine wp_region_quiet_cls (Kp (fun _ => False) w14) (by kernel_rfl) (by kernel_rfl) (Kp.refl _ w14).drew ?_
                 repeat (go_big_quiet_step (first
                   | (go_at_call 18; with_reducible exact j18 _))))
            refine wpQuiet_nil ?_
            intro w15 k15
            clear b0 b1 t1 hcq j18
            go_wp2_with fail
            go_roundg gk
            case measure => omega
            case rel => exact ⟨i + 1, by push_cast; rfl, by omega, L2, (h14.kp k15).less (by simp), hlen⟩
end Go.Proofs.Ytimhbnlgambcaaa
