/- turn, told of trees. No program. -/
import Derived.Test.YtimhbnlgambcaaaPd
namespace Go.Proofs.Ytimhbnlgambcaaa
open Go.RowKit

/-- How many there are from each node down is as it was. -/
def SameN (H H' : Hp) : Prop := ∀ k, (H' k).map (·.n) = (H k).map (·.n)
theorem SameN.refl (H : Hp) : SameN H H := fun _ => rfl
theorem SameN.trans {A B C : Hp} (h : SameN A B) (k : SameN B C) : SameN A C := fun j => (k j).trans (h j)
theorem SameN.upd {A B : Hp} (h : SameN A B) (b : Nat) (f : Nd → Nd) (hf : ∀ x, (f x).n = x.n) : SameN A (upd B b f) := fun k => by
  rw [← h k]
  unfold Go.Proofs.Ytimhbnlgambcaaa.upd
  split
  · cases B k <;> simp [hf]
  · rfl
theorem SameN.size {H H' : Hp} (h : SameN H H') (p : Option Nat) : sizeH H' p = sizeH H p := by
  cases p with
  | none => rfl
  | some b => exact h b
theorem setKid_n (s : Bool) (p : Option Nat) (x : Nd) : (x.setKid s p).n = x.n := by cases s <;> rfl
theorem SameN.hang {H : Hp} (cx : Cx) (y : Option Nat) : SameN H (hangF cx H y) := by
  cases cx with
  | nil =>
    cases y with
    | none => exact SameN.refl H
    | some c => exact (SameN.refl H).upd c _ (fun _ => rfl)
  | cons f cx =>
    cases y with
    | none => exact (SameN.refl H).upd _ _ (fun x => setKid_n _ _ x)
    | some c => exact ((SameN.refl H).upd _ _ (fun x => setKid_n _ _ x)).upd c _ (fun _ => rfl)

theorem wrap_sum (a b : Nat) (h : a + b + 1 < 1099511627776) : wrap64 (wrap64 (1 + (a : Int)) + b) = ((a + b + 1 : Nat) : Int) := by
  unfold wrap64
  omega

theorem hangF_other {cx : Cx} {H : Hp} {y : Option Nat} {k : Nat} (h1 : upC cx ≠ some k) (h2 : y ≠ some k) : hangF cx H y k = H k := by
  cases cx with
  | nil =>
    cases y with
    | none => rfl
    | some c => exact upd_other _ _ _ _ (fun e => h2 (by rw [e]))
  | cons f cx =>
    have hb : k ≠ f.b := fun e => h1 (by rw [e]; rfl)
    cases y with
    | none => exact upd_other _ _ _ _ hb
    | some c => exact (upd_other _ _ _ _ (fun e => h2 (by rw [e]))).trans (upd_other _ _ _ _ hb)
theorem hangF_self {cx : Cx} {H : Hp} {c : Nat} (h1 : upC cx ≠ some c) : hangF cx H (some c) c = (H c).map (·.setUp (upC cx)) := by
  cases cx with
  | nil => exact upd_same _ _ _
  | cons f cx =>
    have hb : c ≠ f.b := fun e => h1 (by rw [e]; rfl)
    show upd (upd H f.b _) c _ c = _
    rw [upd_same, upd_other _ _ _ _ hb]
theorem hangF_up {f : Fr} {cx : Cx} {H : Hp} {y : Option Nat} (h : y ≠ some f.b) : hangF (f :: cx) H y f.b = (H f.b).map (·.setKid f.s y) := by
  cases y with
  | none => exact upd_same _ _ _
  | some c => exact (upd_other _ _ _ _ (fun e => h (by rw [e]))).trans (upd_same _ _ _)

theorem upC_mem {cx : Cx} {k : Nat} (h : upC cx = some k) : k ∈ idsC cx := by
  cases cx with
  | nil => cases h
  | cons f cx => cases h; simp [idsC]

/-- What turn leaves of the nodes, node by node. -/
structure Turned (cx : Cx) (s : Bool) (x : Nat) (hx : Hd) (rx : Bool) (A : TT) (y : Nat) (hy : Hd) (ry : Bool) (B C : TT) (H H' : Hp) : Prop where
  px : H' x = some (ndF ⟨x, hx, rx, s, B⟩ A.ptr A.cnt (some y))
  py : H' y = some (ndF ⟨y, hy, ry, s, C⟩ (some x) (A.cnt + B.cnt + 1) (upC cx))
  pb : ∀ c, B.ptr = some c → H' c = (H c).map (·.setUp (some x))
  pu : ∀ f cx', cx = f :: cx' → H' f.b = (H f.b).map (·.setKid f.s (some y))
  po : ∀ k, k ≠ x → k ≠ y → B.ptr ≠ some k → upC cx ≠ some k → H' k = H k

theorem turnZ0 {H : Hp} {cx : Cx} {s : Bool} {x y : Nat} {hx hy : Hd} {rx ry : Bool} {A B C : TT} (hX : H x = some (ndF ⟨x, hx, rx, s, mk s y hy ry B C⟩ A.ptr A.cnt (upC cx)))
    (hY : H y = some (ndF ⟨y, hy, ry, s, C⟩ B.ptr B.cnt (some x))) (hA : Holds H (some x) A) (hB : Holds H (some y) B) (hC : Holds H (some y) C) (k : Nat) (hcx : HoldsC H cx (some x) k)
    (nxc : x ∉ idsC cx) (nyc : y ∉ idsC cx) (nxy : x ≠ y) (nxB : x ∉ B.ids) (nyB : y ∉ B.ids) (_nxA : x ∉ A.ids) (_nyA : y ∉ A.ids) (nxC : x ∉ C.ids) (_nyC : y ∉ C.ids) (nBc : ∀ j ∈ B.ids, j ∉ idsC cx)
    (small : A.cnt + B.cnt + C.cnt + 2 < 1099511627776) :
    ∃ H', turnH (rootC cx (some x)) H x s = some (rootC cx (some y), H') ∧ Turned cx s x hx rx A y hy ry B C H H' := by
  have hux : upC cx ≠ some x := fun e => nxc (upC_mem e)
  have huy : upC cx ≠ some y := fun e => nyc (upC_mem e)
  have hang := hangZ hX rfl hcx nxc (some y) (fun c e => by cases e; simp [hY])
  have kx : (ndF ⟨x, hx, rx, s, mk s y hy ry B C⟩ A.ptr A.cnt (upC cx)).kid (!s) = some y := by
    cases s <;> simp [ndF, Nd.kid, mk_ptr]
  have h1y : hangF cx H (some y) y = some ((ndF ⟨y, hy, ry, s, C⟩ B.ptr B.cnt (some x)).setUp (upC cx)) := by rw [hangF_self huy, hY]; rfl
  have h1x : hangF cx H (some y) x = some (ndF ⟨x, hx, rx, s, mk s y hy ry B C⟩ A.ptr A.cnt (upC cx)) := by
    rw [hangF_other hux (by simpa using fun e : y = x => nxy e.symm), hX]
  have ky : ((ndF ⟨y, hy, ry, s, C⟩ B.ptr B.cnt (some x)).setUp (upC cx)).kid s = B.ptr := by
    cases s <;> simp [ndF, Nd.setUp, Nd.kid]
  have nB : ∀ c, B.ptr = some c → c ≠ x ∧ c ≠ y ∧ (H c).isSome = true ∧ upC cx ≠ some c := fun c hc =>
    ⟨fun e => nxB (e ▸ TT.ptr_mem hc), fun e => nyB (e ▸ TT.ptr_mem hc), hB.some c (TT.ptr_mem hc), fun e => nBc c (TT.ptr_mem hc) (upC_mem e)⟩
  obtain ⟨H3, h3, h3x, h3y, h3b, h3o, h3n⟩ : ∃ H3, (match B.ptr with
      | .none => some (upd (hangF cx H (some y)) x (·.setKid (!s) B.ptr))
      | some c => if c = x then .none else (H c).bind fun _ => some (upd (upd (hangF cx H (some y)) x (·.setKid (!s) B.ptr)) c (·.setUp (some x)))) = some H3 ∧
      H3 x = some ((ndF ⟨x, hx, rx, s, mk s y hy ry B C⟩ A.ptr A.cnt (upC cx)).setKid (!s) B.ptr) ∧ H3 y = some ((ndF ⟨y, hy, ry, s, C⟩ B.ptr B.cnt (some x)).setUp (upC cx)) ∧
      (∀ c, B.ptr = some c → H3 c = (H c).map (·.setUp (some x))) ∧ (∀ j, j ≠ x → B.ptr ≠ some j → H3 j = hangF cx H (some y) j) ∧ SameN H H3 := by
    cases hb : B.ptr with
    | none =>
      refine ⟨_, rfl, ?_, ?_, (fun c hc => by cases hc), fun j hj _ => upd_other _ _ _ _ hj, (SameN.hang cx (some y)).upd _ _ (fun z => setKid_n _ _ z)⟩
      · rw [upd_same, h1x]; rfl
      · rw [upd_other _ _ _ _ (fun e => nxy e.symm), h1y, hb]
    | some c =>
      obtain ⟨c1, c2, c3, c4⟩ := nB c hb
      obtain ⟨Cn, hCn⟩ := Option.isSome_iff_exists.1 c3
      refine ⟨upd (upd (hangF cx H (some y)) x (·.setKid (!s) (some c))) c (·.setUp (some x)), by simp [c1, hCn], ?_, ?_, ?_, ?_, ((SameN.hang cx (some y)).upd _ _ (fun z => setKid_n _ _ z)).upd _ _ (fun _ => rfl)⟩
      · rw [upd_other _ _ _ _ (fun e => c1 e.symm), upd_same, h1x]; rfl
      · rw [upd_other _ _ _ _ (fun e => c2 e.symm), upd_other _ _ _ _ (fun e => nxy e.symm), h1y, hb]
      · intro c' hc'
        cases hc'
        rw [upd_same, upd_other _ _ _ _ c1, hangF_other c4 (by simpa using fun e : y = c => c2 e.symm)]
      · intro j hj hj'
        rw [upd_other _ _ _ _ (fun e => hj' (by rw [e])), upd_other _ _ _ _ hj]
  have n5 : SameN H (upd (upd H3 y (·.setKid s (some x))) x (·.setUp (some y))) := (h3n.upd _ _ (fun z => setKid_n _ _ z)).upd _ _ (fun _ => rfl)
  have h5x : upd (upd H3 y (·.setKid s (some x))) x (·.setUp (some y)) x = some (((ndF ⟨x, hx, rx, s, mk s y hy ry B C⟩ A.ptr A.cnt (upC cx)).setKid (!s) B.ptr).setUp (some y)) := by
    rw [upd_same, upd_other _ _ _ _ nxy, h3x]; rfl
  have h5y : upd (upd H3 y (·.setKid s (some x))) x (·.setUp (some y)) y = some (((ndF ⟨y, hy, ry, s, C⟩ B.ptr B.cnt (some x)).setUp (upC cx)).setKid s (some x)) := by
    rw [upd_other _ _ _ _ (fun e => nxy e.symm), upd_same, h3y]; rfl
  have h5o : ∀ j, j ≠ x → j ≠ y → upd (upd H3 y (·.setKid s (some x))) x (·.setUp (some y)) j = H3 j := fun j h1 h2 => by
    rw [upd_other _ _ _ _ h1, upd_other _ _ _ _ h2]
  have hkeep : ∀ (Hq : Hp), turnH (rootC cx (some x)) H x s = ((countsH (upd (upd H3 y (·.setKid s (some x))) x (·.setUp (some y))) x).bind fun H6 => (countsH H6 y).bind fun H7 => some (rootC cx (some y), H7)) := by
    intro _
    unfold turnH
    rw [hX, Option.bind_some, kx, Option.bind_some, hang, Option.bind_some]
    simp only [h1y, Option.bind_some, ky]
    cases hb : B.ptr with
    | none =>
      simp only [hb] at h3 ⊢
      rw [h3, Option.bind_some]
    | some c =>
      simp only [hb] at h3 ⊢
      rw [h3, Option.bind_some]
  have hturn := hkeep H
  clear hkeep h3
  generalize upd (upd H3 y (·.setKid s (some x))) x (·.setUp (some y)) = H5 at n5 h5x h5y h5o hturn
  have e6 : countsH H5 x = some (upd H5 x (·.setN ((A.cnt + B.cnt + 1 : Nat) : Int))) := by
    unfold countsH
    rw [h5x, Option.bind_some, n5.size, n5.size]
    cases s
    · have w1 := wrap_sum A.cnt B.cnt (by omega)
      simp [ndF, Nd.setKid, Nd.setUp, hA.size, hB.size, w1]
    · have w1 := wrap_sum B.cnt A.cnt (by omega)
      have w2 : B.cnt + A.cnt + 1 = A.cnt + B.cnt + 1 := by omega
      rw [w2] at w1
      simp [ndF, Nd.setKid, Nd.setUp, hA.size, hB.size, w1]
  have h6y : upd H5 x (·.setN ((A.cnt + B.cnt + 1 : Nat) : Int)) y = some (((ndF ⟨y, hy, ry, s, C⟩ B.ptr B.cnt (some x)).setUp (upC cx)).setKid s (some x)) := by
    rw [upd_other _ _ _ _ (fun e => nxy e.symm), h5y]
  have s6x : sizeH (upd H5 x (·.setN ((A.cnt + B.cnt + 1 : Nat) : Int))) (some x) = some ((A.cnt + B.cnt + 1 : Nat) : Int) := by
    simp [sizeH, upd_same, h5x, Nd.setN]
  have s6C : sizeH (upd H5 x (·.setN ((A.cnt + B.cnt + 1 : Nat) : Int))) C.ptr = some (C.cnt : Int) := by
    rw [← hC.size, ← n5.size]
    cases hc : C.ptr with
    | none => rfl
    | some c =>
      have : c ≠ x := fun e => nxC (e ▸ TT.ptr_mem hc)
      simp [sizeH, upd_other _ _ _ _ this]
  have e7 : countsH (upd H5 x (·.setN ((A.cnt + B.cnt + 1 : Nat) : Int))) y = some (upd (upd H5 x (·.setN ((A.cnt + B.cnt + 1 : Nat) : Int))) y (·.setN ((A.cnt + B.cnt + 1 + C.cnt + 1 : Nat) : Int))) := by
    unfold countsH
    rw [h6y, Option.bind_some]
    cases s
    · have w1 := wrap_sum (A.cnt + B.cnt + 1) C.cnt (by omega)
      simp only [ndF, Nd.setKid, Nd.setUp, Bool.false_eq_true, if_false, s6x, s6C, Option.bind_some, w1]
    · have w1 := wrap_sum C.cnt (A.cnt + B.cnt + 1) (by omega)
      have w2 : C.cnt + (A.cnt + B.cnt + 1) + 1 = A.cnt + B.cnt + 1 + C.cnt + 1 := by omega
      rw [w2] at w1
      simp only [ndF, Nd.setKid, Nd.setUp, if_true, s6x, s6C, Option.bind_some, w1]
  refine ⟨_, by rw [hturn, e6, Option.bind_some, e7, Option.bind_some], ?_, ?_, ?_, ?_, ?_⟩
  · rw [upd_other _ _ _ _ nxy, upd_same, h5x]
    cases s <;> simp [ndF, Nd.setKid, Nd.setUp, Nd.setN]
  · rw [upd_same, h6y]
    cases s <;> simp [ndF, Nd.setKid, Nd.setUp, Nd.setN]
  · intro c hc
    obtain ⟨c1, c2, c3, c4⟩ := nB c hc
    rw [upd_other _ _ _ _ c2, upd_other _ _ _ _ c1, h5o c c1 c2, h3b c hc]
  · intro f cx' e
    subst e
    have fx : f.b ≠ x := fun e => hux (by rw [← e]; rfl)
    have fy : f.b ≠ y := fun e => huy (by rw [← e]; rfl)
    have fB : B.ptr ≠ some f.b := fun e => (nB f.b e).2.2.2 rfl
    rw [upd_other _ _ _ _ fy, upd_other _ _ _ _ fx, h5o _ fx fy, h3o _ fx fB, hangF_up (by simpa using fun e : y = f.b => fy e.symm)]
  · intro j j1 j2 j3 j4
    rw [upd_other _ _ _ _ j2, upd_other _ _ _ _ j1, h5o _ j1 j2, h3o _ j1 j3, hangF_other j4 (by simpa using fun e : y = j => j2 e.symm)]

theorem plug_cnt (cx : Cx) (T : TT) : T.cnt ≤ (plug cx T).cnt := by
  rw [TT.cnt_prs, TT.cnt_prs, plug_prs]
  simp
  omega

theorem nd_frames {cx : Cx} {T : TT} (nd : (plug cx T).ids.Nodup) : (idsC cx).Nodup ∧ T.ids.Nodup ∧ ∀ j ∈ idsC cx, j ∉ T.ids := by
  have h := (ND_iff cx T).2 nd
  unfold ND at h
  rw [List.nodup_append] at h
  exact ⟨h.1, h.2.1, fun j hj hj' => h.2.2 j hj j hj' rfl⟩
theorem nd_mk {s : Bool} {b : Nat} {h : Hd} {red : Bool} {X Y : TT} (nd : (mk s b h red X Y).ids.Nodup) : b ∉ X.ids ∧ b ∉ Y.ids ∧ X.ids.Nodup ∧ Y.ids.Nodup ∧ ∀ j ∈ X.ids, j ∉ Y.ids := by
  have h := (mk_ids s b h red X Y).nodup_iff.1 nd
  simp only [List.cons_append, List.nodup_cons, List.mem_append, not_or, List.nodup_append] at h
  obtain ⟨⟨h1, h2⟩, h3, h4, h5⟩ := h
  exact ⟨h2, h1, h4, h3, fun j hj hj' => h5 j hj' j hj rfl⟩
theorem mem_mk {s : Bool} {b : Nat} {h : Hd} {red : Bool} {X Y : TT} {j : Nat} : j ∈ (mk s b h red X Y).ids ↔ j = b ∨ j ∈ X.ids ∨ j ∈ Y.ids := by
  rw [(mk_ids s b h red X Y).mem_iff]
  simp
  constructor
  · rintro (h | h | h)
    · exact .inl h
    · exact .inr (.inr h)
    · exact .inr (.inl h)
  · rintro (h | h | h)
    · exact .inl h
    · exact .inr (.inr h)
    · exact .inr (.inl h)

theorem turn_prs (cx : Cx) (s : Bool) (x y : Nat) (hx hy : Hd) (rx ry : Bool) (A B C : TT) :
    (plug cx (mk s y hy ry (mk s x hx rx A B) C)).prs = (plug cx (mk s x hx rx A (mk s y hy ry B C))).prs := by
  rw [plug_prs, plug_prs]
  cases s <;> simp [mk, TT.prs]

theorem turnZ {H : Hp} {cx : Cx} {s : Bool} {x y : Nat} {hx hy : Hd} {rx ry : Bool} {A B C : TT} (hz : Holds H .none (plug cx (mk s x hx rx A (mk s y hy ry B C))))
    (nd : (plug cx (mk s x hx rx A (mk s y hy ry B C))).ids.Nodup) (small : (plug cx (mk s x hx rx A (mk s y hy ry B C))).cnt < 1099511627776) :
    ∃ H', turnH (rootC cx (some x)) H x s = some (rootC cx (some y), H') ∧ Holds H' .none (plug cx (mk s y hy ry (mk s x hx rx A B) C)) := by
  have hsm := plug_cnt cx (mk s x hx rx A (mk s y hy ry B C))
  rw [mk_cnt, mk_cnt] at hsm
  obtain ⟨hcx, hT⟩ := holds_plug.1 hz
  rw [mk_ptr] at hcx
  obtain ⟨hX, hA, hYT⟩ := holds_mk.1 hT
  obtain ⟨hY, hB, hC⟩ := holds_mk.1 hYT
  obtain ⟨n1, n2, n3⟩ := nd_frames nd
  obtain ⟨xA, xY, ndA, ndY, dAY⟩ := nd_mk n2
  obtain ⟨yB, yC, ndB, ndC, dBC⟩ := nd_mk ndY
  have xc : x ∉ idsC cx := fun h => n3 x h (mem_mk.2 (.inl rfl))
  have yc : y ∉ idsC cx := fun h => n3 y h (mem_mk.2 (.inr (.inr (mem_mk.2 (.inl rfl)))))
  have xy : x ≠ y := fun e => xY (mem_mk.2 (.inl e))
  have xB : x ∉ B.ids := fun h => xY (mem_mk.2 (.inr (.inl h)))
  have xC : x ∉ C.ids := fun h => xY (mem_mk.2 (.inr (.inr h)))
  have yA : y ∉ A.ids := fun h => dAY y h (mem_mk.2 (.inl rfl))
  have Bc : ∀ j ∈ B.ids, j ∉ idsC cx := fun j hj h => n3 j h (mem_mk.2 (.inr (.inr (mem_mk.2 (.inr (.inl hj))))))
  have Ac : ∀ j ∈ A.ids, j ∉ idsC cx := fun j hj h => n3 j h (mem_mk.2 (.inr (.inl hj)))
  have Cc : ∀ j ∈ C.ids, j ∉ idsC cx := fun j hj h => n3 j h (mem_mk.2 (.inr (.inr (mem_mk.2 (.inr (.inr hj))))))
  have AB : ∀ j ∈ A.ids, j ∉ B.ids := fun j hj h => dAY j hj (mem_mk.2 (.inr (.inl h)))
  have AC : ∀ j ∈ A.ids, j ∉ C.ids := fun j hj h => dAY j hj (mem_mk.2 (.inr (.inr h)))
  obtain ⟨H', hturn, hH⟩ := turnZ0 hX hY hA hB hC _ hcx xc yc xy xB yB xA yA xC yC Bc (by omega)
  refine ⟨H', hturn, holds_plug.2 ⟨?_, holds_mk.2 ⟨?_, holds_mk.2 ⟨?_, ?_, ?_⟩, ?_⟩⟩⟩
  · rw [mk_ptr, mk_cnt, mk_cnt]
    rw [mk_cnt, mk_cnt] at hcx
    have e : A.cnt + (B.cnt + C.cnt + 1) + 1 = A.cnt + B.cnt + 1 + C.cnt + 1 := by omega
    rw [e] at hcx
    have keep : ∀ j ∈ idsC cx, upC cx ≠ some j → H' j = H j := fun j hj hu => hH.po j (fun e => xc (e ▸ hj)) (fun e => yc (e ▸ hj)) (fun e => Bc j (TT.ptr_mem e) hj) hu
    cases cx with
    | nil => trivial
    | cons f cx => exact hcx.rekid n1 (hH.pu f cx rfl) (fun j hj hn => keep j hj (by simpa [upC] using fun e : f.b = j => hn e.symm))
  · rw [mk_ptr, mk_cnt]; exact hH.py
  · exact hH.px
  · exact hA.frame (fun j hj => hH.po j (fun e => xA (e ▸ hj)) (fun e => yA (e ▸ hj)) (fun e => AB j hj (TT.ptr_mem e)) (fun e => Ac j hj (upC_mem e)))
  · exact hB.reup ndB hH.pb (fun j hj hn => hH.po j (fun e => xB (e ▸ hj)) (fun e => yB (e ▸ hj)) hn (fun e => Bc j hj (upC_mem e)))
  · exact hC.frame (fun j hj => hH.po j (fun e => xC (e ▸ hj)) (fun e => yC (e ▸ hj)) (fun e => dBC j (TT.ptr_mem e) hj) (fun e => Cc j hj (upC_mem e)))

end Go.Proofs.Ytimhbnlgambcaaa
