/- The walk of Push of a graph. -/
import Derived.Test.YtimhbnlgambcaaaGi
import Derived.Test.YtimhbnlgambcaaaLa
namespace Go.Proofs.Ytimhbnlgambcaaa
open Go.RowKit Go.BigFrame

def isTreeG (g : GS) (p : Plc) : Bool := match g.R p with
  | some (true, _) => true
  | _ => false
def isListG (g : GS) (p : Plc) : Bool := match g.R p with
  | some (false, _) => true
  | _ => false
def pushErr (g : GS) (p : Plc) (x : Hd) (n : Int) : Int := if (g.In (x, n)).isSome then 7 else if isTreeG g p ∨ (g.By (p, x)).isSome then 3 else 0

section
variable {w w' : World} {gb rm im bm : Nat} {B : Plc → Option (Bool × Nat)} {Sp : Plc → Nat → Prop} {g : GS} {S : Nat → Prop}

theorem GW.rowp_list (h : GW w gb rm im bm B Sp g) (p : Plc) : (rowp B p false = .none ∧ (isListG g p = false) ∧ (isTreeG g p = true ∨ (B p = .none ∧ g.R p = .none))) ∨ ∃ b L, rowp B p false = some b ∧ B p = some (false, b) ∧ g.R p = some (false, L) ∧ ListAt w b (Sp p) L ∧ isTreeG g p = false ∧ isListG g p = true := by
  cases hB : B p with
  | none => exact .inl ⟨by simp [rowp, hB], by simp [isListG, (h.n p hB).1], .inr ⟨rfl, (h.n p hB).1⟩⟩
  | some r =>
    obtain ⟨t, b⟩ := r
    obtain ⟨L, h3, h4⟩ := h.r p t b hB
    cases t with
    | true => exact .inl ⟨by simp [rowp, hB], by simp [isListG, h3], .inl (by simp [isTreeG, h3])⟩
    | false => exact .inr ⟨b, L, by simp [rowp, hB], rfl, h3, h4, by simp [isTreeG, h3], by simp [isListG, h3]⟩
theorem GW.rowp_tree (h : GW w gb rm im bm B Sp g) (p : Plc) : (rowp B p true = .none ∧ (isTreeG g p = false) ∧ (isListG g p = true ∨ (B p = .none ∧ g.R p = .none))) ∨ ∃ b L, rowp B p true = some b ∧ B p = some (true, b) ∧ g.R p = some (true, L) ∧ TreeAt w b (Sp p) L ∧ isListG g p = false ∧ isTreeG g p = true := by
  cases hB : B p with
  | none => exact .inl ⟨by simp [rowp, hB], by simp [isTreeG, (h.n p hB).1], .inr ⟨rfl, (h.n p hB).1⟩⟩
  | some r =>
    obtain ⟨t, b⟩ := r
    obtain ⟨L, h3, h4⟩ := h.r p t b hB
    cases t with
    | false => exact .inl ⟨by simp [rowp, hB], by simp [isTreeG, h3], .inl (by simp [isListG, h3])⟩
    | true => exact .inr ⟨b, L, by simp [rowp, hB], rfl, h3, h4, by simp [isListG, h3], by simp [isTreeG, h3]⟩
theorem GW.may_push (h : GW w gb rm im bm B Sp g) (p : Plc) (x : Hd) (n : Int) : mayErr B g.In g.By p x n (rowp B p false).isSome = pushErr g p x n := by
  unfold mayErr pushErr
  have e : ((B p).isSome = true ∧ (rowp B p false).isSome = false) ↔ isTreeG g p = true := by
    cases hB : B p with
    | none => simp [isTreeG, (h.n p hB).1]
    | some r =>
      obtain ⟨t, b⟩ := r
      obtain ⟨L, h3, h4⟩ := h.r p t b hB
      cases t <;> simp [rowp, hB, isTreeG, h3]
  simp only [e]

/-- What a putting call leaves. -/
def PutPost (w : World) (gb : Nat) (S : Nat → Prop) (g' : GS) (w' : World) : Prop := ∃ S', GraphAt w' gb S' g' ∧ Kp S w w' ∧ ∀ k, S' k → S k ∨ w.heap.size ≤ k

set_option maxRecDepth 100000 in
set_option maxHeartbeats 4000000 in
theorem gpush_err (h : GW w gb rm im bm B Sp g) (p : Plc) (hp : p.ok) (x : Hd) (hx : x.ok) (n : Int) (hn : nwf n) (front : Bool) (he : pushErr g p x n ≠ 0) :
    Calls Try.prog 27 #[.pointer (some ⟨gb, 0, .none⟩), .agg #[.int .i64 p.m, .int .i64 p.s, .int .i64 p.a], .agg #[.int .i64 x.s, .int .u64 x.g], .int .i64 n, .bool front] w fun e w' =>
      e = .returned (.int .i64 (pushErr g p x n)) ∧ Kp (fun _ => False) w w' := by
  have hK0 : Kp (fun _ => False) w ((w.alloc (.cells #[.int .i64 p.m, .int .i64 p.s, .int .i64 p.a] 55)).alloc (.cells #[.int .i64 x.s, .int .u64 x.g] 34)) := ((Kp.refl _ _).alloc _).alloc _
  obtain ⟨hp1, hx1⟩ := two_new w (.cells #[.int .i64 p.m, .int .i64 p.s, .int .i64 p.a] 55) (.cells #[.int .i64 x.s, .int .u64 x.g] 34)
  have hP : PBox ((w.alloc (.cells #[.int .i64 p.m, .int .i64 p.s, .int .i64 p.a] 55)).alloc (.cells #[.int .i64 x.s, .int .u64 x.g] 34)) w.heap.size p := hp1
  have hX : HBox ((w.alloc (.cells #[.int .i64 p.m, .int .i64 p.s, .int .i64 p.a] 55)).alloc (.cells #[.int .i64 x.s, .int .u64 x.g] 34)) (w.heap.size + 1) x := hx1
  have hG := h.kp0 hK0
  have hmy := h.may_push p x n
  obtain ⟨er, her⟩ : ∃ er, er = pushErr g p x n := ⟨_, rfl⟩
  rw [← her] at he hmy ⊢
  have heb : (er == 0) = false := by simpa using he
  obtain ⟨rp, hrp⟩ : ∃ rp, rp = rowp B p false := ⟨_, rfl⟩
  rw [← hrp] at hmy
  have hmyh := Lib.hid hmy
  have hrph := Lib.hid hrp
  clear hp1 hx1 her hmy hrp he
  go_enter Try.func27, Try.ntmps27
  go_wp2_with fail
  generalize (w.alloc (.cells #[.int .i64 p.m, .int .i64 p.s, .int .i64 p.a] 55)).alloc (.cells #[.int .i64 x.s, .int .u64 x.g] 34) = W at hK0 hP hX hG ⊢
  have p0 : ∀ q : Cls (Kp (fun _ => False) W), q.W.cell? ⟨w.heap.size, 0, .none⟩ = some (.int .i64 p.m) := fun q => (hP.kp0 q.h).c0
  have p1 : ∀ q : Cls (Kp (fun _ => False) W), q.W.cell? ⟨w.heap.size, 1, .none⟩ = some (.int .i64 p.s) := fun q => (hP.kp0 q.h).c1
  have p2 : ∀ q : Cls (Kp (fun _ => False) W), q.W.cell? ⟨w.heap.size, 2, .none⟩ = some (.int .i64 p.a) := fun q => (hP.kp0 q.h).c2
  have x0 : ∀ q : Cls (Kp (fun _ => False) W), q.W.cell? ⟨w.heap.size + 1, 0, .none⟩ = some (.int .i64 x.s) := fun q => (hX.kp0 q.h).c0
  have x1 : ∀ q : Cls (Kp (fun _ => False) W), q.W.cell? ⟨w.heap.size + 1, 1, .none⟩ = some (.int .u64 x.g) := fun q => (hX.kp0 q.h).c1
  have j53 : ∀ q : Cls (Kp (fun _ => False) W), Calls Try.prog 53 #[.pointer (some ⟨gb, 0, .none⟩)] q.W fun e w' => e = .returned (.bool true) ∧ ∃ r : Cls (Kp (fun _ => False) W), w' = r.W :=
    fun q => Calls.cls ((graph_made (hG.kp0 q.h).m).mono fun e w h => ⟨h.1, h.2 ▸ q.h⟩)
  have j54 : ∀ q : Cls (Kp (fun _ => False) W), Calls Try.prog 54 #[.pointer (some ⟨gb, 0, .none⟩), .agg #[.int .i64 p.m, .int .i64 p.s, .int .i64 p.a]] q.W fun e w' => e = .returned (.pointer (adr rp)) ∧ ∃ r : Cls (Kp (fun _ => False) W), w' = r.W :=
    fun q => Calls.cls ((graph_listed (hG.kp0 q.h).m p hp).mono fun e w h => ⟨hrph.out ▸ h.1, q.h.trans h.2⟩)
  have j52 : ∀ q : Cls (Kp (fun _ => False) W), Calls Try.prog 52 #[.pointer (some ⟨gb, 0, .none⟩), .agg #[.int .i64 p.m, .int .i64 p.s, .int .i64 p.a], .agg #[.int .i64 x.s, .int .u64 x.g], .int .i64 n, .bool rp.isSome] q.W fun e w' => e = .returned (.int .i64 er) ∧ ∃ r : Cls (Kp (fun _ => False) W), w' = r.W :=
    fun q => Calls.cls ((graph_may (hG.kp0 q.h).m p hp x hx n hn rp.isSome).mono fun e w h => ⟨hmyh.out ▸ h.1, q.h.trans h.2⟩)
  haveI : Nonempty (Cls (Kp (fun _ => False) W)) := ⟨⟨_, Kp.refl _ W⟩⟩
  cases rp with
  | none =>
    simp only [adr_none, Option.isSome_none] at j54 j52
    refine wp_region_quiet_cls (Kp (fun _ => False) W) (by kernel_rfl) (by kernel_rfl) (Kp.refl _ W).drew ?_
    repeat (go_big_quiet_step (first
      | (go_at_call 53; with_reducible exact j53 _)
      | (go_at_call 54; with_reducible exact j54 _)
      | (go_at_call 52; with_reducible exact j52 _)))
    refine wpQuiet_nil ?_
    intro w3 hk3
    clear p0 p1 p2 x0 x1 j52 j53 j54
    go_wp2_with fail
    go_ret
    exact ⟨rfl, hK0.trans hk3⟩
  | some b =>
    simp only [adr_some, Option.isSome_some] at j54 j52
    refine wp_region_quiet_cls (Kp (fun _ => False) W) (by kernel_rfl) (by kernel_rfl) (Kp.refl _ W).drew ?_
    repeat (go_big_quiet_step (first
      | (go_at_call 53; with_reducible exact j53 _)
      | (go_at_call 54; with_reducible exact j54 _)
      | (go_at_call 52; with_reducible exact j52 _)))
    refine wpQuiet_nil ?_
    intro w3 hk3
    clear p0 p1 p2 x0 x1 j52 j53 j54
    go_wp2_with fail
    go_ret
    exact ⟨rfl, hK0.trans hk3⟩
end
end Go.Proofs.Ytimhbnlgambcaaa
