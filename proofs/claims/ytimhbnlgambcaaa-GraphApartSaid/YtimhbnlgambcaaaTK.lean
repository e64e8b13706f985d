/- A tree as a list of handles: what each method does, in those words. -/
import Derived.Test.YtimhbnlgambcaaaTI
import Derived.Test.YtimhbnlgambcaaaTJ
import Derived.Test.YtimhbnlgambcaaaPj
namespace Go.Proofs.Ytimhbnlgambcaaa
open Go.RowKit

/-- At block tb lies a tree that holds the handles L, in order, through the blocks S. -/
def TreeAt (w : World) (tb : Nat) (S : Nat → Prop) (L : List Hd) : Prop :=
  ∃ mb n H F T, TW w tb mb n T.ptr H F ∧ Good H T ∧ T.ord = L ∧ (∀ h b, F h = some b ↔ (h, b) ∈ T.prs) ∧ (∀ h ∈ L, h.ok) ∧ ∀ k, S k ↔ TSM tb mb H k

theorem TSM.lt {w : World} {tb mb n : Nat} {root : Option Nat} {H : Hp} {F : Hd → Option Nat} (h : TW w tb mb n root H F) {k : Nat} (hk : TSM tb mb H k) : k < w.heap.size := by
  rcases hk with rfl | rfl | hk
  · exact h.m.lt
  · exact h.r.t.lt
  · obtain ⟨x, hx⟩ := Option.isSome_iff_exists.1 hk
    exact (h.r.h k x hx).lt
theorem TreeAt.lt {w : World} {tb : Nat} {S : Nat → Prop} {L : List Hd} (h : TreeAt w tb S L) {k : Nat} (hk : S k) : k < w.heap.size := by
  obtain ⟨mb, n, H, F, T, h1, _, _, _, _, h6⟩ := h
  exact TSM.lt h1 ((h6 k).1 hk)
theorem TreeAt.self {w : World} {tb : Nat} {S : Nat → Prop} {L : List Hd} (h : TreeAt w tb S L) : S tb := by
  obtain ⟨mb, n, H, F, T, h1, _, _, _, _, h6⟩ := h
  exact (h6 tb).2 (.inr (.inl rfl))
theorem TW.kp {w w' : World} {tb mb n : Nat} {root : Option Nat} {H : Hp} {F : Hd → Option Nat} (h : TW w tb mb n root H F) {R : Nat → Prop} (hk : Kp R w w') (hd : ∀ k, TSM tb mb H k → ¬ R k) : TW w' tb mb n root H F :=
  ⟨⟨(hk.block tb h.r.t.lt (hd tb (.inr (.inl rfl)))).trans h.r.t, h.r.h.kp hk (fun b hb => hd b (.inr (.inr hb)))⟩, h.m.kp hk (hd mb (.inl rfl))⟩
/-- A tree stays what it is while other blocks turn. -/
theorem TreeAt.kp {w w' : World} {tb : Nat} {S R : Nat → Prop} {L : List Hd} (h : TreeAt w tb S L) (hk : Kp R w w') (hd : ∀ k, S k → ¬ R k) : TreeAt w' tb S L := by
  obtain ⟨mb, n, H, F, T, h1, h2, h3, h4, h5, h6⟩ := h
  exact ⟨mb, n, H, F, T, h1.kp hk (fun k hk' => hd k ((h6 k).2 hk')), h2, h3, h4, h5, h6⟩
theorem TreeAt.alloc {w : World} {tb : Nat} {S : Nat → Prop} {L : List Hd} (h : TreeAt w tb S L) (o : Obj) : TreeAt (w.alloc o) tb S L := h.kp (R := fun _ => False) ((Kp.refl _ _).alloc o) (fun _ _ h => h)
theorem TreeAt.drewN {w : World} {tb : Nat} {S : Nat → Prop} {L : List Hd} (h : TreeAt w tb S L) (n : Nat) : TreeAt (w.drewN n) tb S L := h.kp (R := fun _ => False) ((Kp.refl _ _).drewN n) (fun _ _ h => h)
theorem TreeAt.drew {w : World} {tb : Nat} {S : Nat → Prop} {L : List Hd} (h : TreeAt w tb S L) : TreeAt w.drew tb S L := h.kp (R := fun _ => False) (Kp.refl _ _).drew (fun _ _ h => h)

def hdv (h : Hd) : Value := .agg #[.int .i64 h.s, .int .u64 h.g]

theorem tree_new (w : World) : Calls Try.prog 10 #[] w fun e w' => ∃ tb S, e = .returned (.pointer (some ⟨tb, 0, .none⟩)) ∧ TreeAt w' tb S [] ∧ (∀ k, S k → w.heap.size ≤ k) ∧ Kp (fun _ => False) w w' := by
  refine (new_any w).mono ?_
  rintro e w' ⟨tb, mb, rfl, hT, h1, h2, hk⟩
  refine ⟨tb, TSM tb mb (fun _ => .none), rfl, ⟨mb, 0, fun _ => .none, fun _ => .none, .leaf, hT, ⟨trivial, by simp [TT.ids], 0, .leaf⟩, rfl, by simp [TT.prs], by simp, fun _ => Iff.rfl⟩, ?_, hk⟩
  rintro k (rfl | rfl | h)
  · exact h2
  · exact h1
  · cases h

theorem finH_dom {root root' : Option Nat} {H H' : Hp} (h : finH root H = some (root', H')) (j : Nat) : (H' j).isSome = (H j).isSome := by
  obtain ⟨r, R, _, _, _, rfl⟩ := finH_some h
  exact upd_dom _ _ _ _
theorem settles2H_dom {root root' : Option Nat} {H H' : Hp} {p g : Nat} {s : Bool} (h : settles2H root H p g s = some (root', H')) (j : Nat) : (H' j).isSome = (H j).isSome := by
  obtain ⟨_, ⟨r, H1⟩, h1, h2⟩ := settles2H_some h
  rw [finH_dom h2, turnH_dom h1, upd_dom, upd_dom]
theorem settlesH_dom : ∀ {k : Nat} {root root' : Option Nat} {H H' : Hp} {x : Nat}, settlesH k root H x = some (root', H') → ∀ j, (H' j).isSome = (H j).isSome
  | 0, _, _, _, _, _, h, _ => by cases h
  | k + 1, root, root', H, H', x, h, j => by
    simp only [settlesH, Option.bind_eq_some_iff] at h
    obtain ⟨X, hX, r, hr, h⟩ := h
    cases r with
    | false =>
      simp only [if_true] at h
      exact finH_dom h j
    | true =>
      simp only [Bool.true_eq_false, if_false, Option.bind_eq_some_iff] at h
      obtain ⟨p, hp, P, hP, g, hg, s, hs, G, hG, ur, hur, h⟩ := h
      cases ur with
      | true =>
        simp only [if_true, Option.bind_eq_some_iff] at h
        obtain ⟨u, hu, h⟩ := h
        split at h
        · cases h
        · rw [settlesH_dom h, upd_dom, upd_dom, upd_dom]
      | false =>
        simp only [Bool.false_eq_true, if_false, Option.bind_eq_some_iff] at h
        obtain ⟨wx, hwx, h⟩ := h
        split at h
        · exact settles2H_dom h j
        · simp only [Option.bind_eq_some_iff] at h
          obtain ⟨⟨r1, H1⟩, h1, h⟩ := h
          rw [settles2H_dom h, turnH_dom h1]
theorem insH_dom {k : Nat} {root root' : Option Nat} {H H' : Hp} {i : Int} {x : Nat} (h : insH k root H i x = some (root', H')) (j : Nat) : (H' j).isSome = (H j).isSome := by
  cases root with
  | none =>
    cases h
    exact upd_dom _ _ _ _
  | some r =>
    simp only [insH, Option.bind_eq_some_iff] at h
    obtain ⟨⟨H1, b, s⟩, hd, h⟩ := h
    split at h
    · cases h
    · simp only [Option.bind_eq_some_iff] at h
      obtain ⟨_, _, _, _, h⟩ := h
      rw [settlesH_dom h, upd_dom, upd_dom, descH_dom hd]
theorem fills2H_dom {root : Option Nat} {H : Hp} {p : Nat} {s : Bool} {b : Nat} {z : (Option Nat × Hp) ⊕ (Hp × Option Nat × Bool)} (h : fills2H root H p s b = some z) (j : Nat) :
    (match z with | .inl q => (q.2 j).isSome | .inr q => (q.1 j).isSome) = (H j).isSome := by
  simp only [fills2H, Option.bind_eq_some_iff] at h
  obtain ⟨P, hP, B, hB, fr, hfr, h⟩ := h
  cases fr with
  | true =>
    simp only [if_true, Option.bind_eq_some_iff] at h
    obtain ⟨f, hf, h⟩ := h
    split at h
    · cases h
    · simp only [Option.bind_eq_some_iff] at h
      obtain ⟨⟨r1, H1⟩, h1, h⟩ := h
      cases h
      simp only [turnH_dom h1, three, upd_dom]
  | false =>
    simp only [Bool.false_eq_true, if_false, Option.bind_eq_some_iff] at h
    obtain ⟨nr, hnr, h⟩ := h
    cases nr with
    | true =>
      simp only [if_true, Option.bind_eq_some_iff] at h
      obtain ⟨n, hn, h⟩ := h
      split at h
      · cases h
      · simp only [Option.bind_eq_some_iff] at h
        obtain ⟨⟨r1, H1⟩, h1, P2, hP2, b2, hb2, B2, hB2, f2, hf2, F2, hF2, h⟩ := h
        split at h
        · cases h
        · simp only [Option.bind_eq_some_iff] at h
          obtain ⟨⟨r2, H2⟩, h2, h⟩ := h
          cases h
          simp only [turnH_dom h2, three, upd_dom, turnH_dom h1]
    | false =>
      simp only [Bool.false_eq_true, if_false] at h
      split at h
      · cases h
      · split at h
        · cases h
          simp only [upd_dom]
        · simp only [Option.bind_eq_some_iff] at h
          obtain ⟨s', hs, h⟩ := h
          cases h
          simp only [upd_dom]
theorem fillsH_dom : ∀ {k : Nat} {root root' : Option Nat} {H H' : Hp} {p : Option Nat} {s : Bool}, fillsH k root H p s = some (root', H') → ∀ j, (H' j).isSome = (H j).isSome
  | 0, _, _, _, _, _, _, h, _ => by cases h
  | k + 1, root, root', H, H', .none, s, h, j => by cases h; rfl
  | k + 1, root, root', H, H', some p, s, h, j => by
    simp only [fillsH, Option.bind_eq_some_iff] at h
    obtain ⟨P, hP, b, hb, B, hB, ⟨r1, H1, b1⟩, hz, z, h2, h⟩ := h
    have hd : (H1 j).isSome = (H j).isSome := by
      split at hz
      · split at hz
        · cases hz
        · simp only [Option.bind_eq_some_iff] at hz
          obtain ⟨⟨r2, H2⟩, h3, P1, hP1, b2, hb2, hz⟩ := hz
          cases hz
          rw [turnH_dom h3, upd_dom, upd_dom]
      · cases hz; rfl
    have h3 := fills2H_dom h2 j
    cases z with
    | inl q =>
      cases h
      exact h3.trans hd
    | inr q =>
      obtain ⟨H3, p3, s3⟩ := q
      rw [fillsH_dom h j]
      exact h3.trans hd
theorem cutH_dom {k : Nat} {root root' : Option Nat} {H H' : Hp} {x : Nat} (h : cutH k root H x = some (root', H')) (j : Nat) : (H' j).isSome = (H j).isSome := by
  simp only [cutH, Option.bind_eq_some_iff] at h
  obtain ⟨X, hX, H1, h1, X1, hX1, s, hs, ⟨r2, H2⟩, h2, h⟩ := h
  have hd : (H2 j).isSome = (H j).isSome := by rw [hangH_dom h2, lessH_dom h1]
  rw [← hd]
  split at h
  · simp only [Option.bind_eq_some_iff] at h
    obtain ⟨_, _, h⟩ := h
    cases h
    exact upd_dom _ _ _ _
  · simp only [Option.bind_eq_some_iff] at h
    obtain ⟨X2, hX2, h⟩ := h
    split at h
    · split at h
      · cases h; rfl
      · exact fillsH_dom h j
    · cases h; rfl

theorem idxH_mono : ∀ {k : Nat} {H : Hp} {x : Nat} {i r : Int}, idxH k H x i = some r → ∀ m, idxH (k + m) H x i = some r
  | 0, _, _, _, _, h, _ => by cases h
  | k + 1, H, x, i, r, h, m => by
    have e : k + 1 + m = (k + m) + 1 := by omega
    rw [e]
    simp only [idxH, Option.bind_eq_some_iff] at h ⊢
    obtain ⟨X, hX, h⟩ := h
    refine ⟨X, hX, ?_⟩
    cases hu : X.up with
    | none => rw [hu] at h; exact h
    | some u =>
      rw [hu] at h
      simp only [Option.bind_eq_some_iff] at h ⊢
      obtain ⟨wh, hw, U, hU, h⟩ := h
      refine ⟨wh, hw, U, hU, ?_⟩
      cases wh with
      | true =>
        simp only [if_true, Option.bind_eq_some_iff] at h ⊢
        obtain ⟨a, ha, h⟩ := h
        exact ⟨a, ha, idxH_mono h m⟩
      | false =>
        simp only [Bool.false_eq_true, if_false] at h ⊢
        exact idxH_mono h m

theorem nd_mid {P Q : List (Hd × Nat)} {p : Hd × Nat} (nd : ((P ++ p :: Q).map (·.1)).Nodup) : (∀ q ∈ P, q.1 ≠ p.1) ∧ ∀ q ∈ Q, q.1 ≠ p.1 := by
  rw [List.map_append, List.map_cons, List.nodup_append, List.nodup_cons] at nd
  obtain ⟨_, ⟨n2, _⟩, n3⟩ := nd
  exact ⟨fun q hq => n3 q.1 (List.mem_map.2 ⟨q, hq, rfl⟩) p.1 (by simp), fun q hq e => n2 (List.mem_map.2 ⟨q, hq, e⟩)⟩
theorem fdel_iff {F : Hd → Option Nat} {P Q : List (Hd × Nat)} {h : Hd} {b : Nat} (hF : ∀ h' b', F h' = some b' ↔ (h', b') ∈ P ++ (h, b) :: Q) (nd : ((P ++ (h, b) :: Q).map (·.1)).Nodup) (h' : Hd) (b' : Nat) :
    fdel F h h' = some b' ↔ (h', b') ∈ P ++ Q := by
  obtain ⟨n1, n2⟩ := nd_mid nd
  have key := hF h' b'
  simp only [List.mem_append, List.mem_cons] at key ⊢
  unfold fdel
  by_cases e : h' = h
  · subst e
    rw [if_pos rfl]
    constructor
    · intro e; cases e
    · rintro (q | q)
      · exact (n1 (h', b') q rfl).elim
      · exact (n2 (h', b') q rfl).elim
  · rw [if_neg e, key]
    constructor
    · rintro (q | q | q)
      · exact .inl q
      · cases q; exact absurd rfl e
      · exact .inr q
    · rintro (q | q)
      · exact .inl q
      · exact .inr (.inr q)
theorem fswap_iff {F : Hd → Option Nat} {P R : List (Hd × Nat)} {h hn : Hd} {b y : Nat} (hF : ∀ h' b', F h' = some b' ↔ (h', b') ∈ P ++ (h, b) :: (hn, y) :: R) (nd : ((P ++ (h, b) :: (hn, y) :: R).map (·.1)).Nodup) (h' : Hd) (b' : Nat) :
    swapF F h b (some (hn.s, hn.g)) h' = some b' ↔ (h', b') ∈ P ++ (hn, b) :: R := by
  have key := fdel_iff hF nd h' b'
  have nd2 : (((P ++ [(h, b)]) ++ (hn, y) :: R).map (·.1)).Nodup := by simpa using nd
  obtain ⟨n1, n2⟩ := nd_mid nd2
  have n1' : ∀ q ∈ P, q.1 ≠ hn := fun q hq => n1 q (by simp [hq])
  simp only [List.mem_append, List.mem_cons] at key ⊢
  show fput (fdel F h) ⟨hn.s, hn.g⟩ b h' = some b' ↔ _
  have ehn : (⟨hn.s, hn.g⟩ : Hd) = hn := rfl
  rw [ehn]
  unfold fput
  by_cases e : h' = hn
  · subst e
    rw [if_pos rfl]
    constructor
    · intro e; cases e; exact .inr (.inl rfl)
    · rintro (q | q | q)
      · exact (n1' (h', b') q rfl).elim
      · cases q; rfl
      · exact (n2 (h', b') q rfl).elim
  · rw [if_neg e, key]
    constructor
    · rintro (q | q | q)
      · exact .inl q
      · cases q; exact absurd rfl e
      · exact .inr (.inr q)
    · rintro (q | q | q)
      · exact .inl q
      · cases q; exact absurd rfl e
      · exact .inr (.inr q)

section
variable {w : World} {tb : Nat} {S : Nat → Prop} {L : List Hd}

theorem tree_len (hT : TreeAt w tb S L) : Calls Try.prog 22 #[.pointer (some ⟨tb, 0, .none⟩)] w fun e w' => e = .returned (.int .i64 L.length) ∧ w = w' := by
  obtain ⟨mb, n, H, F, T, h1, h2, h3, h4, h5, h6⟩ := hT
  have := h2.holds.size
  rw [TT.cnt_prs, ← List.length_map (f := fun q : Hd × Nat => q.1), ← TT.ord_prs, h3] at this
  exact len_any w tb mb _ H h1.r _ this

theorem cnt_ord (T : TT) : T.cnt = T.ord.length := by rw [TT.cnt_prs, TT.ord_prs, List.length_map]

theorem tree_deep (hT : TreeAt w tb S L) (small : L.length < 1099511627776) : Calls Try.prog 20 #[.pointer (some ⟨tb, 0, .none⟩)] w fun e w' => ∃ d : Nat, e = .returned (.int .i64 d) ∧ (∃ n, d ≤ 2 * n ∧ 2 ^ n ≤ L.length + 1) ∧ d ≤ L.length ∧ ∃ n, w' = w.drewN n := by
  obtain ⟨mb, n, H, F, T, h1, h2, h3, h4, h5, h6⟩ := hT
  have hc : T.cnt = L.length := by rw [cnt_ord, h3]
  have hd := deepZ T (k := T.cnt) h2.holds (Nat.le_refl _) (by omega)
  refine (deep_any w tb mb T.cnt _ H h1.r _ hd).mono ?_
  rintro e w' ⟨rfl, hn⟩
  obtain ⟨N, hN⟩ := h2.rb
  have h7 := rb_dep hN
  refine ⟨T.dep, rfl, ⟨N, by simpa using h7.1, by rw [← hc]; exact h7.2⟩, by rw [← hc]; exact dep_le T, hn⟩

theorem tree_all (hT : TreeAt w tb S L) (small : L.length ≤ 1000000) : Calls Try.prog 23 #[.pointer (some ⟨tb, 0, .none⟩)] w fun e w' => ∃ v, e = .returned v ∧ w'.ownsRow w.heap.size 34 2 v L.length (flatH L) ∧ (v = .slice .none 0 0 ↔ L = []) ∧ Below w.heap.size w w' := by
  obtain ⟨mb, n, H, F, T, h1, h2, h3, h4, h5, h6⟩ := hT
  subst h3
  exact all_any w tb mb _ H T h1.r h2.holds rfl small

theorem tree_index (hT : TreeAt w tb S L) (h : Hd) (hk : h.ok) (small : L.length < 1099511627776) :
    Calls Try.prog 17 #[.pointer (some ⟨tb, 0, .none⟩), .agg #[.int .i64 h.s, .int .u64 h.g]] w fun e w' =>
      ((h ∉ L ∧ e = .returned (.tuple #[.int .i64 0, .bool false])) ∨ (∃ i : Nat, L[i]? = some h ∧ e = .returned (.tuple #[.int .i64 i, .bool true]))) ∧ TreeAt w' tb S L ∧ Kp (fun _ => False) w w' := by
  obtain ⟨mb, n, H, F, T, h1, h2, h3, h4, h5, h6⟩ := hT
  have hc : T.cnt = L.length := by rw [cnt_ord, h3]
  cases hF : F h with
  | none =>
    refine (index_no w tb mb n _ H F h1 h hk hF).mono ?_
    rintro e w' ⟨rfl, hT', hK⟩
    refine ⟨.inl ⟨fun hm => ?_, rfl⟩, ⟨mb, n, H, F, T, hT', h2, h3, h4, h5, h6⟩, hK⟩
    rw [← h3, TT.ord_prs, List.mem_map] at hm
    obtain ⟨q, hq, rfl⟩ := hm
    rw [(h4 q.1 q.2).2 hq] at hF
    cases hF
  | some b =>
    obtain ⟨cx, c, l, r, rfl⟩ := find_node ((h4 h b).1 hF)
    obtain ⟨k, X, hX, hs, hi⟩ := idxZ h2 (by omega)
    refine (index_at w tb mb n k _ H F h1 h hk b hF X hX _ _ hs hi).mono ?_
    rintro e w' ⟨rfl, hT', hK⟩
    refine ⟨.inr ⟨_, ?_, rfl⟩, ⟨mb, n, H, F, _, hT', h2, h3, h4, h5, h6⟩, hK⟩
    rw [← h3, TT.ord_prs, plug_prs]
    simp [TT.prs]

theorem tree_at (hT : TreeAt w tb S L) (i : Int) (small : L.length < 1099511627776) :
    Calls Try.prog 16 #[.pointer (some ⟨tb, 0, .none⟩), .int .i64 i] w fun e w' =>
      ((¬ (0 ≤ i ∧ i < L.length) ∧ e = .returned (.tuple #[.agg #[.int .i64 0, .int .u64 0], .bool false])) ∨ (∃ (j : Nat) (h : Hd), i = j ∧ L[j]? = some h ∧ e = .returned (.tuple #[.agg #[.int .i64 h.s, .int .u64 h.g], .bool true]))) ∧ TreeAt w' tb S L ∧ Kp (fun _ => False) w w' := by
  obtain ⟨mb, n, H, F, T, h1, h2, h3, h4, h5, h6⟩ := hT
  have hc : T.cnt = L.length := by rw [cnt_ord, h3]
  have hs := h2.holds.size
  rw [hc] at hs
  by_cases hneg : i < 0
  · refine (at_neg w tb mb n _ H F h1 i hneg).mono ?_
    rintro e w' ⟨rfl, hT', hK⟩
    exact ⟨.inl ⟨by omega, rfl⟩, ⟨mb, n, H, F, T, hT', h2, h3, h4, h5, h6⟩, hK⟩
  · by_cases hbig : (L.length : Int) ≤ i
    · refine (at_big w tb mb n _ H F h1 i _ hs (by omega) hbig).mono ?_
      rintro e w' ⟨rfl, hT', hK⟩
      exact ⟨.inl ⟨by omega, rfl⟩, ⟨mb, n, H, F, T, hT', h2, h3, h4, h5, h6⟩, hK⟩
    · obtain ⟨j, rfl⟩ := Int.eq_ofNat_of_zero_le (show 0 ≤ i by omega)
      obtain ⟨rt, hrt⟩ : ∃ rt, T.ptr = some rt := leaf_ptr (fun e => by rw [e] at hc; simp [TT.cnt] at hc; omega)
      obtain ⟨q, q1, q2⟩ := atZ T (k := T.cnt) h2.holds hrt (show j < T.cnt by omega) (Nat.le_refl _) (by omega)
      rw [hrt] at h1 hs
      refine (at_ok w tb mb n T.cnt rt H F h1 j _ hs (by omega) (by omega) _ _ q2).mono ?_
      rintro e w' ⟨rfl, hT', hK⟩
      refine ⟨.inr ⟨j, q.1, rfl, ?_, rfl⟩, ⟨mb, n, H, F, T, by rw [hrt]; exact hT', h2, h3, h4, h5, h6⟩, hK⟩
      rw [← h3, TT.ord_prs, List.getElem?_map, q1]
      rfl
theorem prs_ids_inj {l : List (Hd × Nat)} (nd : (l.map (·.2)).Nodup) {p q : Hd × Nat} (hp : p ∈ l) (hq : q ∈ l) (h : p.2 = q.2) : p = q := by
  induction l with
  | nil => cases hp
  | cons a l ih =>
    simp only [List.map_cons, List.nodup_cons, List.mem_map, not_exists, not_and] at nd
    rcases List.mem_cons.1 hp with rfl | hp'
    · rcases List.mem_cons.1 hq with rfl | hq'
      · rfl
      · exact absurd h.symm (nd.1 q hq')
    · rcases List.mem_cons.1 hq with rfl | hq'
      · exact absurd h (nd.1 p hp')
      · exact ih nd.2 hp' hq'
theorem prs_nodup {l : List (Hd × Nat)} (nd : (l.map (·.2)).Nodup) (hf : ∀ h b b', (h, b) ∈ l → (h, b') ∈ l → b = b') : (l.map (·.1)).Nodup := by
  induction l with
  | nil => simp
  | cons a l ih =>
    simp only [List.map_cons, List.nodup_cons, List.mem_map, not_exists, not_and] at nd ⊢
    refine ⟨fun q hq e => ?_, ih nd.2 (fun h b b' h1 h2 => hf h b b' (by simp [h1]) (by simp [h2]))⟩
    have := hf a.1 a.2 q.2 (by simp) (by rw [← e]; simp [hq])
    exact nd.1 q hq this.symm

theorem TreeAt.nodup (hT : TreeAt w tb S L) : L.Nodup := by
  obtain ⟨mb, n, H, F, T, h1, h2, h3, h4, h5, h6⟩ := hT
  rw [← h3, TT.ord_prs]
  refine prs_nodup (by rw [← TT.ids_prs]; exact h2.nd) (fun h b b' e1 e2 => ?_)
  have := ((h4 h b).2 e1).symm.trans ((h4 h b').2 e2)
  exact Option.some.inj this
theorem TreeAt.ok (hT : TreeAt w tb S L) : ∀ h ∈ L, h.ok := by
  obtain ⟨mb, n, H, F, T, h1, h2, h3, h4, h5, h6⟩ := hT
  exact h5

/-- What Insert answers, and what it makes of a row. -/
def insErr (L : List Hd) (i : Int) (h : Hd) : Int := if i < 0 ∨ (L.length : Int) < i then 2 else if h ∈ L then 7 else 0
def insList (L : List Hd) (i : Int) (h : Hd) : List Hd := if i < 0 ∨ (L.length : Int) < i then L else if h ∈ L then L else L.take i.toNat ++ h :: L.drop i.toNat

theorem tree_insert (hT : TreeAt w tb S L) (i : Int) (h : Hd) (hk : h.ok) (small : L.length + 1 < 1099511627776) :
    Calls Try.prog 14 #[.pointer (some ⟨tb, 0, .none⟩), .int .i64 i, .agg #[.int .i64 h.s, .int .u64 h.g]] w fun e w' =>
      e = .returned (.int .i64 (insErr L i h)) ∧ ∃ S', TreeAt w' tb S' (insList L i h) ∧ Kp S w w' ∧ ∀ k, S' k → S k ∨ w.heap.size ≤ k := by
  have hT0 := hT
  obtain ⟨mb, n, H, F, T, h1, h2, h3, h4, h5, h6⟩ := hT
  have hc : T.cnt = L.length := by rw [cnt_ord, h3]
  have hs := h2.holds.size
  rw [hc] at hs
  by_cases hneg : i < 0
  · refine (insert_neg w tb mb n _ H F h1 i h hneg).mono ?_
    rintro e w' ⟨rfl, hT', hK⟩
    exact ⟨by simp [insErr, hneg], S, by simp only [insList, hneg, true_or, if_true]; exact ⟨mb, n, H, F, T, hT', h2, h3, h4, h5, h6⟩, hK.mono (fun _ _ h => h.elim), fun k hk => .inl hk⟩
  · by_cases hbig : (L.length : Int) < i
    · refine (insert_big w tb mb n _ H F h1 i _ h hs (by omega) hbig).mono ?_
      rintro e w' ⟨rfl, hT', hK⟩
      exact ⟨by simp [insErr, hbig], S, by simp only [insList, hbig, or_true, if_true]; exact ⟨mb, n, H, F, T, hT', h2, h3, h4, h5, h6⟩, hK.mono (fun _ _ h => h.elim), fun k hk => .inl hk⟩
    · have hno : ¬ (i < 0 ∨ (L.length : Int) < i) := by omega
      cases hF : F h with
      | some b =>
        have hm : h ∈ L := by
          rw [← h3, TT.ord_prs]
          exact List.mem_map.2 ⟨(h, b), (h4 h b).1 hF, rfl⟩
        refine (insert_there w tb mb n _ H F h1 i _ h hk hs (by omega) (by omega) b hF).mono ?_
        rintro e w' ⟨rfl, hT', hK⟩
        exact ⟨by simp [insErr, hno, hm], S, by simp only [insList, if_neg hno, if_pos hm]; exact ⟨mb, n, H, F, T, hT', h2, h3, h4, h5, h6⟩, hK.mono (fun _ _ h => h.elim), fun k hk => .inl hk⟩
      | none =>
        have hm : h ∉ L := by
          intro hm
          rw [← h3, TT.ord_prs, List.mem_map] at hm
          obtain ⟨q, hq, rfl⟩ := hm
          rw [(h4 q.1 q.2).2 hq] at hF
          cases hF
        obtain ⟨j, rfl⟩ := Int.eq_ofNat_of_zero_le (show 0 ≤ i by omega)
        have hx : w.heap.size + 1 ∉ T.ids := fun hm => by
          have := h2.holds.some _ hm
          have := TSM.lt h1 (.inr (.inr this))
          omega
        obtain ⟨k, H', T', e1, e2, e3⟩ := insZ h2 (w.heap.size + 1) hx h j (by omega) (by omega)
        refine (insert_ok w tb mb n k _ _ H H' F h1 j _ h hk hs (by omega) (by omega) hF e1).mono ?_
        rintro e w' ⟨rfl, hT', hK⟩
        have hL' : insList L j h = L.take j ++ h :: L.drop j := by simp only [insList, if_neg hno, if_neg hm, Int.toNat_natCast]
        refine ⟨by simp only [insErr, if_neg hno, if_neg hm], TSM tb mb H', ?_, hK.mono (fun k _ hk => (h6 k).2 hk), ?_⟩
        · refine ⟨mb, n + 1, H', _, T', hT', e2, ?_, ?_, ?_, fun _ => Iff.rfl⟩
          · rw [TT.ord_prs, e3, hL', ← h3, TT.ord_prs]
            simp [List.map_take, List.map_drop]
          · intro h' b'
            rw [e3]
            have hmem : (h', b') ∈ T.prs ↔ (h', b') ∈ T.prs.take j ∨ (h', b') ∈ T.prs.drop j := by
              rw [← List.mem_append, List.take_append_drop]
            simp only [fput, List.mem_append, List.mem_cons]
            by_cases e : h' = h
            · subst e
              rw [if_pos rfl]
              constructor
              · intro e; cases e; exact .inr (.inl rfl)
              · rintro (q | q | q)
                · have := (h4 _ _).2 (hmem.2 (.inl q)); rw [hF] at this; cases this
                · cases q; rfl
                · have := (h4 _ _).2 (hmem.2 (.inr q)); rw [hF] at this; cases this
            · rw [if_neg e, h4, hmem]
              constructor
              · rintro (q | q)
                · exact .inl q
                · exact .inr (.inr q)
              · rintro (q | q | q)
                · exact .inl q
                · cases q; exact absurd rfl e
                · exact .inr q
          · intro h' hm'
            rw [hL'] at hm'
            simp only [List.mem_append, List.mem_cons] at hm'
            rcases hm' with q | rfl | q
            · exact h5 h' (List.mem_of_mem_take q)
            · exact hk
            · exact h5 h' (List.mem_of_mem_drop q)
        · intro k' hk'
          by_cases hlt : k' < w.heap.size
          · left
            rw [h6]
            rcases hk' with rfl | rfl | q
            · exact .inl rfl
            · exact .inr (.inl rfl)
            · right; right
              -- the heap of nodes has gained the new one alone
              cases e : H k' with
              | some x => rfl
              | none =>
                exfalso
                have hd := insH_dom e1 k'
                rw [q] at hd
                unfold hadd at hd
                rw [if_neg (by omega), e] at hd
                cases hd
          · exact .inr (by omega)

theorem tree_remove (hT : TreeAt w tb S L) (h : Hd) (hk : h.ok) (small : L.length < 1099511627776) :
    Calls Try.prog 12 #[.pointer (some ⟨tb, 0, .none⟩), .agg #[.int .i64 h.s, .int .u64 h.g]] w fun e w' =>
      ((h ∉ L ∧ e = .returned (.tuple #[.int .i64 0, .bool false]) ∧ TreeAt w' tb S L) ∨
       (∃ pre post, L = pre ++ h :: post ∧ e = .returned (.tuple #[.int .i64 pre.length, .bool true]) ∧ TreeAt w' tb S (pre ++ post))) ∧ Kp S w w' := by
  obtain ⟨mb, n, H, F, T, h1, h2, h3, h4, h5, h6⟩ := hT
  have hc : T.cnt = L.length := by rw [cnt_ord, h3]
  cases hF : F h with
  | none =>
    refine (remove_no w tb mb n _ H F h1 h hk hF).mono ?_
    rintro e w' ⟨rfl, hT', hK⟩
    refine ⟨.inl ⟨fun hm => ?_, rfl, ⟨mb, n, H, F, T, hT', h2, h3, h4, h5, h6⟩⟩, hK.mono (fun _ _ h => h.elim)⟩
    rw [← h3, TT.ord_prs, List.mem_map] at hm
    obtain ⟨q, hq, rfl⟩ := hm
    rw [(h4 q.1 q.2).2 hq] at hF
    cases hF
  | some b =>
    obtain ⟨cx, c, l, r, rfl⟩ := find_node ((h4 h b).1 hF)
    obtain ⟨k0, X, hX, hs, hi⟩ := idxZ h2 (by omega)
    obtain ⟨k, hkk⟩ : ∃ k, k = k0 + (plug cx (.node b h c l r)).cnt + 1 := ⟨_, rfl⟩
    obtain ⟨H1, x, sw, H', T', e1, e2, e3, e4⟩ := removeZ h2 (by omega) k (by omega)
    have hi' : idxH k H b l.cnt = some ((preC cx ++ l.prs).length : Int) := by
      rw [hkk, Nat.add_assoc]
      exact idxH_mono hi _
    have hprs : (plug cx (.node b h c l r)).prs = (preC cx ++ l.prs) ++ (h, b) :: (r.prs ++ postC cx) := by
      rw [plug_prs]; simp [TT.prs]
    have hokn : ∀ s g, sw = some (s, g) → (Hd.mk s g).ok := by
      intro s g hsw
      rcases e4 with ⟨rfl, _⟩ | ⟨h', y, rest, rfl, hr, _⟩
      · cases hsw
      · cases hsw
        refine h5 h' ?_
        rw [← h3, TT.ord_prs, hprs, hr]
        simp
    have ndl : ((plug cx (.node b h c l r)).prs.map (·.2)).Nodup := by rw [← TT.ids_prs]; exact h2.nd
    refine (remove_ok w tb mb n k _ _ H H1 H' F h1 h hk b hF X hX _ _ hs hi' x sw hokn e1 e2).mono ?_
    rintro e w' ⟨rfl, hT', hK⟩
    have hSeq : ∀ j, S j ↔ TSM tb mb H' j := by
      intro j
      rw [h6]
      have hd : (H' j).isSome = (H j).isSome := by rw [cutH_dom e2, swapH_dom e1]
      simp only [TSM, TS, hd]
    refine ⟨.inr ⟨(preC cx ++ l.prs).map (·.1), (r.prs ++ postC cx).map (·.1), ?_, ?_, ?_⟩, hK.mono (fun k _ hk => (h6 k).2 hk)⟩
    · rw [← h3, TT.ord_prs, hprs]
      simp
    · rw [List.length_map]
    · refine ⟨mb, n + 1, H', _, T', hT', e3, ?_, ?_, ?_, hSeq⟩
      · rcases e4 with ⟨rfl, e5⟩ | ⟨h', y, rest, rfl, hr, e5⟩
        · rw [TT.ord_prs, e5]
          simp
        · rw [TT.ord_prs, e5, hr]
          simp
      · have hF4 : ∀ h' b', F h' = some b' ↔ (h', b') ∈ (preC cx ++ l.prs) ++ (h, b) :: (r.prs ++ postC cx) := fun h' b' => by rw [h4, hprs]
        have ndH : (((preC cx ++ l.prs) ++ (h, b) :: (r.prs ++ postC cx)).map (·.1)).Nodup := by
          rw [← hprs]
          exact prs_nodup ndl (fun h' c1 c2 q1 q2 => Option.some.inj (((h4 h' c1).2 q1).symm.trans ((h4 h' c2).2 q2)))
        intro h' b'
        rcases e4 with ⟨rfl, e5⟩ | ⟨hn, y, rest, rfl, hr, e5⟩
        · have e6 : T'.prs = (preC cx ++ l.prs) ++ (r.prs ++ postC cx) := by rw [e5]; simp
          rw [e6]
          exact fdel_iff hF4 ndH h' b'
        · have e6 : T'.prs = (preC cx ++ l.prs) ++ (hn, b) :: (rest ++ postC cx) := by rw [e5]; simp
          rw [hr, List.cons_append] at hF4 ndH
          rw [e6]
          exact fswap_iff hF4 ndH h' b'
      · intro h' hm'
        refine h5 h' ?_
        rw [← h3, TT.ord_prs, hprs]
        simp only [List.mem_append, List.map_append, List.map_cons, List.mem_cons] at hm' ⊢
        rcases hm' with (q | q) | q | q
        · exact .inl (.inl q)
        · exact .inl (.inr q)
        · exact .inr (.inr (.inl q))
        · exact .inr (.inr (.inr q))

end

end Go.Proofs.Ytimhbnlgambcaaa
