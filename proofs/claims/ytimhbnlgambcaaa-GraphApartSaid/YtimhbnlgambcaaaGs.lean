/- What a graph's script is, as the walks are told it; the walk of GraphApart. -/
import Derived.Test.YtimhbnlgambcaaaGr
import Derived.Deep.DeepCutAuto
namespace Go.Proofs.Ytimhbnlgambcaaa
open Go.RowKit Go.BigFrame

/-- A step. -/
structure StG where
  d : Int
  i : Int
  n : Int
  p : Plc
  h : Hd
  f : Bool
structure StG.ok (s : StG) : Prop where
  d : nwf s.d
  i : nwf s.i
  n : nwf s.n
  p : s.p.ok
  h : s.h.ok
def StG.cells (s : StG) : Array Value := #[.int .i64 s.d, .int .i64 s.i, .int .i64 s.n, .int .i64 s.p.m, .int .i64 s.p.s, .int .i64 s.p.a, .int .i64 s.h.s, .int .u64 s.h.g, .bool s.f]
/-- A block that holds a step. -/
def SBox (W : World) (B : Nat) (s : StG) : Prop := W.heap[B]? = some (.cells s.cells 59 (0, 0))
theorem SBox.c {W : World} {B : Nat} {s : StG} (hb : SBox W B s) (k : Nat) : W.cell? ⟨B, k, .none⟩ = s.cells[k]? := by simp [World.cell?, show W.heap[B]? = _ from hb]

/-- What the walk is told of the script: each of its steps lies in old memory. -/
def IsStepsG (w : World) (a : Option Addr) (len : Nat) : Prop := ∀ i, i < len → ∃ (b o : Nat) (s : StG), a = some ⟨b, o, .none⟩ ∧ s.ok ∧
  ∀ wr, Below w.heap.size w wr → ∀ k, k < 9 → wr.cell? ⟨b, o + i * 9 + k, .none⟩ = s.cells[k]?

theorem nwf8 : nwf 8 := by unfold nwf; decide
theorem zg_ok {z g : Int} (h0 : 0 ≤ z) (h1 : z ≤ 255) (hg : 0 ≤ g ∧ g ≤ 255) : (Hd.mk z g).ok := by
  refine ⟨?_, ?_⟩ <;> (simp [Lit.wf, IntKind.min, IntKind.max, IntKind.signed, IntKind.bits]; omega)
instance (p : Plc) : Decidable p.ok := by unfold Plc.ok; infer_instance
theorem ap_empty : Ap emptyG emptyG := ⟨rfl, fun _ _ => rfl, fun _ => rfl, by simp [rowL, emptyG], by simp [rowL, emptyG], by simp [emptyG]⟩
theorem sz_empty : Sz emptyG 0 := by simp [Sz, rowL, emptyG]

theorem do_of (d : Int) : d = 0 ∨ d = 2 ∨ d = 1 ∨ d = 3 ∨ ((d == 0) = false ∧ (d == 2) = false ∧ (d == 1) = false ∧ (d == 3) = false) := by
  by_cases h0 : d = 0
  · exact .inl h0
  by_cases h2 : d = 2
  · exact .inr (.inl h2)
  by_cases h1 : d = 1
  · exact .inr (.inr (.inl h1))
  by_cases h3 : d = 3
  · exact .inr (.inr (.inr (.inl h3)))
  exact .inr (.inr (.inr (.inr ⟨by simpa using h0, by simpa using h2, by simpa using h1, by simpa using h3⟩)))
theorem endv_of (g a : GS) (p : Plc) (f : Bool) (h : gEnd g p f = gEnd a p f) : ∃ (y : Hd) (is : Bool), gEndV g p f = .tuple #[.agg #[.int .i64 y.s, .int .u64 y.g], .bool is] ∧ Hid (gEndV a p f = .tuple #[.agg #[.int .i64 y.s, .int .u64 y.g], .bool is]) := by
  have e : gEndV a p f = gEndV g p f := by simp only [gEndV, h]
  cases hx : gEnd g p f with
  | none => exact ⟨⟨0, 0⟩, false, by simp only [gEndV, hx], Lib.hid (e.trans (by simp only [gEndV, hx]))⟩
  | some x => exact ⟨x, true, by simp only [gEndV, hx], Lib.hid (e.trans (by simp only [gEndV, hx]))⟩

theorem tail_facts {w0 W : World} {gb ab : Nat} {g a : GS} {bs : List (Nat × Obj)} {b : Nat} {n : Nat} (h : DG w0 gb ab g a bs W) (hA : Ap g a) (hS : Sz g n) (hm : (b, Obj.cells #[.int .i64 1, .int .i64 0, .int .i64 0] 55) ∈ bs) :
    ∃ (L : List Hd) (K : Int), L.length ≤ n ∧ rowL g P1 = L ∧ rowL a P1 = L ∧
      (∀ q : Cls (Kp (fun _ => False) W), Calls Try.prog 31 #[.pointer (some ⟨gb, 0, .none⟩), .agg #[.int .i64 1, .int .i64 0, .int .i64 0]] q.W fun e w' => e = .returned (.int .i64 L.length) ∧ ∃ r : Cls (Kp (fun _ => False) W), w' = r.W) ∧
      (∀ q : Cls (Kp (fun _ => False) W), Calls Try.prog 31 #[.pointer (some ⟨ab, 0, .none⟩), .agg #[.int .i64 1, .int .i64 0, .int .i64 0]] q.W fun e w' => e = .returned (.int .i64 L.length) ∧ ∃ r : Cls (Kp (fun _ => False) W), w' = r.W) ∧
      (∀ q : Cls (Kp (fun _ => False) W), Calls Try.prog 32 #[.pointer (some ⟨gb, 0, .none⟩), .agg #[.int .i64 1, .int .i64 0, .int .i64 0]] q.W fun e w' => e = .returned (.int .u8 K) ∧ ∃ r : Cls (Kp (fun _ => False) W), w' = r.W) ∧
      (∀ q : Cls (Kp (fun _ => False) W), Calls Try.prog 32 #[.pointer (some ⟨ab, 0, .none⟩), .agg #[.int .i64 1, .int .i64 0, .int .i64 0]] q.W fun e w' => e = .returned (.int .u8 K) ∧ ∃ r : Cls (Kp (fun _ => False) W), w' = r.W) ∧
      (∀ q : Cls (Kp (fun _ => False) W), q.W.cell? ⟨b, 0, .none⟩ = some (.int .i64 1)) ∧ (∀ q : Cls (Kp (fun _ => False) W), q.W.cell? ⟨b, 1, .none⟩ = some (.int .i64 0)) ∧ (∀ q : Cls (Kp (fun _ => False) W), q.W.cell? ⟨b, 2, .none⟩ = some (.int .i64 0)) ∧
      Nonempty (Cls (Kp (fun _ => False) W)) := by
  have hb : ∀ q : Cls (Kp (fun _ => False) W), OBox q.W b (.cells #[.int .i64 1, .int .i64 0, .int .i64 0] 55) := fun q => (h.kp q.h).obox hm
  exact ⟨rowL g P1, gkind g P1, hS.1, rfl, hA.row.symm,
    fun q => Calls.cls ((dg_len (h.kp q.h) P1 (by decide)).mono fun e w h => ⟨h.1, q.h.trans h.2⟩),
    fun q => Calls.cls ((dg_len (h.kp q.h).swap P1 (by decide)).mono fun e w h => ⟨hA.row ▸ h.1, q.h.trans h.2⟩),
    fun q => Calls.cls ((dg_kind (h.kp q.h) P1 (by decide)).mono fun e w h => ⟨h.1, q.h.trans h.2⟩),
    fun q => Calls.cls ((dg_kind (h.kp q.h).swap P1 (by decide)).mono fun e w h => ⟨hA.kind ▸ h.1, q.h.trans h.2⟩),
    fun q => PBox.c0 (p := ⟨1, 0, 0⟩) (hb q), fun q => PBox.c1 (p := ⟨1, 0, 0⟩) (hb q), fun q => PBox.c2 (p := ⟨1, 0, 0⟩) (hb q), ⟨⟨W, Kp.refl _ _⟩⟩⟩

set_option maxRecDepth 100000 in
set_option maxHeartbeats 40000000 in
theorem graphApart_walk (a : Option Addr) (len cap : Nat) (w : World) (hin : IsStepsG w a len) :
    Calls Try.prog 5 #[.slice a len cap] w fun e w' => e = .returned (.bool true) ∧ Below w.heap.size w w' := by
  by_cases g1 : 200 < len
  · go_enter Try.func5, Try.ntmps5
    go_wp2_with fail
    refine (gworks_any w w (Below.refl _ _)).mono ?_
    rintro e w3 ⟨rfl, h3⟩
    go_wp2_with fail
    go_ret
    exact ⟨rfl, h3⟩
  have g2 : (len : Int) ≤ 200 := by omega
  go_enter Try.func5, Try.ntmps5
  go_wp2_with fail
  have hB0 : Below w.heap.size w ((w.alloc (.cells #[.int .i64 1, .int .i64 0, .int .i64 0] 55)).alloc (.cells #[.int .i64 2, .int .i64 0, .int .i64 0] 55)) := ((Below.refl _ _).alloc (Nat.le_refl _) _).alloc (by simp) _
  obtain ⟨hb1, hb2⟩ := two_new w (.cells #[.int .i64 1, .int .i64 0, .int .i64 0] 55) (.cells #[.int .i64 2, .int .i64 0, .int .i64 0] 55)
  generalize (w.alloc (.cells #[.int .i64 1, .int .i64 0, .int .i64 0] 55)).alloc (.cells #[.int .i64 2, .int .i64 0, .int .i64 0] 55) = W at hB0 hb1 hb2 ⊢
  refine (gr_new W).mono ?_
  rintro e w1 ⟨gb, S1, rfl, hg1, hS1, hk1⟩
  have hB1 := hB0.trans (hk1.below hB0.size (fun _ h => h.elim))
  have hb1' : OBox w1 w.heap.size (.cells #[.int .i64 1, .int .i64 0, .int .i64 0] 55) := (hk1.block _ (lt_of_block hb1) (fun h => h)).trans hb1
  have hb2' : OBox w1 (w.heap.size + 1) (.cells #[.int .i64 2, .int .i64 0, .int .i64 0] 55) := (hk1.block _ (lt_of_block hb2) (fun h => h)).trans hb2
  have hlt1 := lt_of_block hb1
  have hlt2 := lt_of_block hb2
  go_wp2_with fail
  refine (dg_new (bs := [(w.heap.size, .cells #[.int .i64 1, .int .i64 0, .int .i64 0] 55), (w.heap.size + 1, .cells #[.int .i64 2, .int .i64 0, .int .i64 0] 55)]) hB1 (by simp [hb1', hb2']) hg1 (fun k hk => Nat.le_trans hB0.size (hS1 k hk)) ?_).mono ?_
  · intro q hq hs
    have := hS1 _ hs
    simp at hq
    rcases hq with rfl | rfl
    · simp at this; omega
    · simp at this; omega
  rintro e w2 ⟨ab, rfl, h2⟩
  clear hg1 hS1 hk1 hB1 hb1' hb2' hB0 hb1 hb2 hlt1 hlt2
  go_wp2_with fail
  go_loopg [7] len (fun k v wr => ∃ i : Nat, v = .int .i64 i ∧ i + k = len ∧ ∃ g a, DG w gb ab g a [(w.heap.size, .cells #[.int .i64 1, .int .i64 0, .int .i64 0] 55), (w.heap.size + 1, .cells #[.int .i64 2, .int .i64 0, .int .i64 0] 55)] wr ∧ Ap g a ∧ Sz g i)
  case atStart => exact ⟨0, rfl, by omega, _, _, h2, ap_empty, sz_empty⟩
  case round =>
    obtain ⟨i, rfl, hik, g, aa, hD, hA, hS⟩ := hrel
    clear h2
    cases gk with
    | zero =>
      have hi : ¬ (i : Int) < len := by omega
      go_wp2_with fail
      refine (gworks_any w wr hD.below).mono ?_
      rintro e w3 ⟨rfl, h3⟩
      go_wp2_with fail
      go_ret
      exact ⟨rfl, h3⟩
    | succ gq =>
    have hi : (i : Int) < len := by omega
    obtain ⟨b, o, st, rfl, hst, hcell⟩ := hin i (by omega)
    have hc := hcell wr hD.below
    have c0 : wr.cell? ⟨b, o + i * 9, .none⟩ = some (.int .i64 st.d) := hc 0 (by omega)
    have c1 : wr.cell? ⟨b, o + i * 9 + 1, .none⟩ = some (.int .i64 st.i) := hc 1 (by omega)
    have c2 : wr.cell? ⟨b, o + i * 9 + 2, .none⟩ = some (.int .i64 st.n) := hc 2 (by omega)
    have c3 : wr.cell? ⟨b, o + i * 9 + 3, .none⟩ = some (.int .i64 st.p.m) := hc 3 (by omega)
    have c4 : wr.cell? ⟨b, o + i * 9 + 4, .none⟩ = some (.int .i64 st.p.s) := hc 4 (by omega)
    have c5 : wr.cell? ⟨b, o + i * 9 + 5, .none⟩ = some (.int .i64 st.p.a) := hc 5 (by omega)
    have c6 : wr.cell? ⟨b, o + i * 9 + 6, .none⟩ = some (.int .i64 st.h.s) := hc 6 (by omega)
    have c7 : wr.cell? ⟨b, o + i * 9 + 7, .none⟩ = some (.int .u64 st.h.g) := hc 7 (by omega)
    have c8 : wr.cell? ⟨b, o + i * 9 + 8, .none⟩ = some (.bool st.f) := hc 8 (by omega)
    have cl := block_lt_of_cell c0
    simp only at cl
    clear hc hcell
    have s8o := hD.okg
    cases hmb : (st.p.m.tmod 2 == 0)
    case' true =>
      go_wp2_with fail
      obtain ⟨z, hz, hz0, hz1⟩ : ∃ z, bits BinOp.and IntKind.i64 st.h.s 31 % 256 = z ∧ 0 ≤ z ∧ z ≤ 255 := ⟨_, rfl, by omega, by omega⟩
      rw [hz]
      have s8 := hD.box (.cells st.cells 59)
      unfold StG.cells at s8
      obtain ⟨B8, hB8⟩ : ∃ B, wr.heap.size = B := ⟨_, rfl⟩
      simp only [hB8] at s8 ⊢
      generalize wr.alloc (Obj.cells #[Value.int IntKind.i64 st.d, Value.int IntKind.i64 st.i, Value.int IntKind.i64 st.n, Value.int IntKind.i64 st.p.m, Value.int IntKind.i64 st.p.s, Value.int IntKind.i64 st.p.a, Value.int IntKind.i64 st.h.s, Value.int IntKind.u64 st.h.g, Value.bool st.f] 59) = W8 at s8 ⊢
      clear hD hB8 c0 c1 c2 c3 c4 c5 c6 c7 c8 cl hz
      refine (gone_any z W8 hz0 hz1).mono ?_
      rintro e w9 ⟨rfl, hk9⟩
      have s9 := s8.kp hk9
      clear s8 hk9
      have hpp := PBox.c0 (p := ⟨1, 0, 0⟩) (s9.obox (b := w.heap.size) (by simp))
      have hpp1 := PBox.c1 (p := ⟨1, 0, 0⟩) (s9.obox (b := w.heap.size) (by simp))
      have hpp2 := PBox.c2 (p := ⟨1, 0, 0⟩) (s9.obox (b := w.heap.size) (by simp))
      have hpl := (s9.obox (b := w.heap.size) (x := .cells #[.int .i64 1, .int .i64 0, .int .i64 0] 55) (by simp)).lt
      have hd0 := SBox.c (s := st) (s9.obox (b := B8) (x := .cells st.cells 59) (by simp [StG.cells])) 0
      have hdl := (s9.obox (b := B8) (x := .cells st.cells 59) (by simp [StG.cells])).lt
      simp only [StG.cells, List.getElem?_toArray, List.getElem?_cons_zero] at hd0
      have s10 := (s9.box (.cells #[.int .i64 z, .int .u64 1] 34)).box (.cells #[.int .i64 1, .int .i64 0, .int .i64 0] 55)
      rw [World.size_alloc] at s10
      have hok : (Hd.mk z 1).ok := zg_ok hz0 hz1 (by decide)
      rcases do_of st.d with e | e | e | e | ⟨f0, f2, f1, f3⟩
      case' inl =>
        rw [e] at hd0
        clear e
        go_upto_region 17 with (fail)
        obtain ⟨Bh, hBh⟩ : ∃ B, w9.heap.size = B := ⟨_, rfl⟩
        obtain ⟨Ba, hBa⟩ : ∃ B, w9.heap.size + 1 = B := ⟨_, rfl⟩
        simp only [hBa] at s10 ⊢
        simp only [hBh] at s10 ⊢
        generalize (w9.alloc (Obj.cells #[Value.int IntKind.i64 z, Value.int IntKind.u64 1] 34)).alloc (Obj.cells #[Value.int IntKind.i64 1, Value.int IntKind.i64 0, Value.int IntKind.i64 0] 55) = W10 at s10 ⊢
        clear hBh hBa s9 hpp hpp1 hpp2 hpl hd0 hdl
        have a0 := PBox.c0 (p := ⟨1, 0, 0⟩) (s10.obox (b := Ba) (by simp))
        have a1 := PBox.c1 (p := ⟨1, 0, 0⟩) (s10.obox (b := Ba) (by simp))
        have a2 := PBox.c2 (p := ⟨1, 0, 0⟩) (s10.obox (b := Ba) (by simp))
        have h0 := HBox.c0 (h := ⟨z, 1⟩) (s10.obox (b := Bh) (by simp))
        have h1 := HBox.c1 (h := ⟨z, 1⟩) (s10.obox (b := Bh) (by simp))
        have d8 : _ = some (Value.bool st.f) := SBox.c (s := st) (s10.obox (b := B8) (x := .cells st.cells 59) (by simp [StG.cells])) 8
        go_wp2_with fail
        refine (dg_push s10 P1 (by decide) ⟨z, 1⟩ hok 8 nwf8 st.f).mono ?_
        rintro e w11 ⟨rfl, s11⟩
        clear a0 a1 a2 h0 h1 d8
        have hE : pushErr g P1 ⟨z, 1⟩ 8 = pushErr aa P1 ⟨z, 1⟩ 8 := hA.pushErr (x := ⟨z, 1⟩) rfl
        obtain ⟨hA2, hS2⟩ := hA.push1 hS (x := ⟨z, 1⟩) rfl st.f
        generalize gPush g P1 ⟨z, 1⟩ 8 st.f = g2 at s11 hA2 hS2
        generalize pushErr g P1 ⟨z, 1⟩ 8 = er at hE ⊢
        have a0 := PBox.c0 (p := ⟨1, 0, 0⟩) (s11.obox (b := Ba) (by simp))
        have a1 := PBox.c1 (p := ⟨1, 0, 0⟩) (s11.obox (b := Ba) (by simp))
        have a2 := PBox.c2 (p := ⟨1, 0, 0⟩) (s11.obox (b := Ba) (by simp))
        have h0 := HBox.c0 (h := ⟨z, 1⟩) (s11.obox (b := Bh) (by simp))
        have h1 := HBox.c1 (h := ⟨z, 1⟩) (s11.obox (b := Bh) (by simp))
        have d8 : _ = some (Value.bool st.f) := SBox.c (s := st) (s11.obox (b := B8) (x := .cells st.cells 59) (by simp [StG.cells])) 8
        have hEh := Lib.hid hE
        clear hE
        go_wp2_with fail
        refine (dg_push s11.swap P1 (by decide) ⟨z, 1⟩ hok 8 nwf8 st.f).mono ?_
        rintro e w12 ⟨rfl, s12⟩
        rw [← hEh.out]
        clear a0 a1 a2 h0 h1 d8 s10
        generalize gPush aa P1 ⟨z, 1⟩ 8 st.f = aa2 at s12 hA2
        have s13 := s12.swap
        clear s11 s12 hEh
        go_wp2_with fail
      case' inr.inl =>
        rw [e] at hd0
        clear e
        go_upto_region 21 with (fail)
        obtain ⟨Bh, hBh⟩ : ∃ B, w9.heap.size = B := ⟨_, rfl⟩
        obtain ⟨Ba, hBa⟩ : ∃ B, w9.heap.size + 1 = B := ⟨_, rfl⟩
        simp only [hBa] at s10 ⊢
        simp only [hBh] at s10 ⊢
        generalize (w9.alloc (Obj.cells #[Value.int IntKind.i64 z, Value.int IntKind.u64 1] 34)).alloc (Obj.cells #[Value.int IntKind.i64 1, Value.int IntKind.i64 0, Value.int IntKind.i64 0] 55) = W10 at s10 ⊢
        clear hBh hBa s9 hpp hpp1 hpp2 hpl hd0 hdl
        have a0 := PBox.c0 (p := ⟨1, 0, 0⟩) (s10.obox (b := Ba) (by simp))
        have a1 := PBox.c1 (p := ⟨1, 0, 0⟩) (s10.obox (b := Ba) (by simp))
        have a2 := PBox.c2 (p := ⟨1, 0, 0⟩) (s10.obox (b := Ba) (by simp))
        have h0 := HBox.c0 (h := ⟨z, 1⟩) (s10.obox (b := Bh) (by simp))
        have h1 := HBox.c1 (h := ⟨z, 1⟩) (s10.obox (b := Bh) (by simp))
        have d1 : _ = some (Value.int IntKind.i64 st.i) := SBox.c (s := st) (s10.obox (b := B8) (x := .cells st.cells 59) (by simp [StG.cells])) 1
        go_wp2_with fail
        refine (dg_insert s10 P1 (by decide) st.i ⟨z, 1⟩ hok 8 nwf8 (by have := hS.1; omega)).mono ?_
        rintro e w11 ⟨rfl, s11⟩
        clear a0 a1 a2 h0 h1 d1
        have hE : gInsErr g P1 st.i ⟨z, 1⟩ 8 = gInsErr aa P1 st.i ⟨z, 1⟩ 8 := hA.insErr (x := ⟨z, 1⟩) rfl st.i
        obtain ⟨hA2, hS2⟩ := hA.ins1 hS (x := ⟨z, 1⟩) rfl st.i
        generalize gIns g P1 st.i ⟨z, 1⟩ 8 = g2 at s11 hA2 hS2
        generalize gInsErr g P1 st.i ⟨z, 1⟩ 8 = er at hE ⊢
        have a0 := PBox.c0 (p := ⟨1, 0, 0⟩) (s11.obox (b := Ba) (by simp))
        have a1 := PBox.c1 (p := ⟨1, 0, 0⟩) (s11.obox (b := Ba) (by simp))
        have a2 := PBox.c2 (p := ⟨1, 0, 0⟩) (s11.obox (b := Ba) (by simp))
        have h0 := HBox.c0 (h := ⟨z, 1⟩) (s11.obox (b := Bh) (by simp))
        have h1 := HBox.c1 (h := ⟨z, 1⟩) (s11.obox (b := Bh) (by simp))
        have d1 : _ = some (Value.int IntKind.i64 st.i) := SBox.c (s := st) (s11.obox (b := B8) (x := .cells st.cells 59) (by simp [StG.cells])) 1
        have hEh := Lib.hid hE
        clear hE
        go_wp2_with fail
        refine (dg_insert s11.swap P1 (by decide) st.i ⟨z, 1⟩ hok 8 nwf8 (by have := hS.1; rw [← hA.row]; omega)).mono ?_
        rintro e w12 ⟨rfl, s12⟩
        rw [← hEh.out]
        clear a0 a1 a2 h0 h1 d1 s10
        generalize gIns aa P1 st.i ⟨z, 1⟩ 8 = aa2 at s12 hA2
        have s13 := s12.swap
        clear s11 s12 hEh
        go_wp2_with fail
      case' inr.inr.inl =>
        rw [e] at hd0
        clear e
        go_upto_region 25 with (fail)
        obtain ⟨Bh, hBh⟩ : ∃ B, w9.heap.size = B := ⟨_, rfl⟩
        obtain ⟨Ba, hBa⟩ : ∃ B, w9.heap.size + 1 = B := ⟨_, rfl⟩
        simp only [hBa] at s10 ⊢
        simp only [hBh] at s10 ⊢
        generalize (w9.alloc (Obj.cells #[Value.int IntKind.i64 z, Value.int IntKind.u64 1] 34)).alloc (Obj.cells #[Value.int IntKind.i64 1, Value.int IntKind.i64 0, Value.int IntKind.i64 0] 55) = W10 at s10 ⊢
        clear hBh hBa s9 hpp hpp1 hpp2 hpl hd0 hdl
        have a0 := PBox.c0 (p := ⟨1, 0, 0⟩) (s10.obox (b := Ba) (by simp))
        have a1 := PBox.c1 (p := ⟨1, 0, 0⟩) (s10.obox (b := Ba) (by simp))
        have a2 := PBox.c2 (p := ⟨1, 0, 0⟩) (s10.obox (b := Ba) (by simp))
        have d8 : _ = some (Value.bool st.f) := SBox.c (s := st) (s10.obox (b := B8) (x := .cells st.cells 59) (by simp [StG.cells])) 8
        go_wp2_with fail
        refine (dg_pop s10 P1 (by decide) st.f).mono ?_
        rintro e w11 ⟨rfl, s11⟩
        clear a0 a1 a2 d8 s10
        obtain ⟨y, yis, hy, hyH⟩ := endv_of g aa P1 st.f (hA.gEnd st.f)
        rw [hy]
        clear hy
        obtain ⟨hA2, hS2⟩ := hA.pop1 s8o hS st.f
        generalize gPop g P1 st.f = g2 at s11 hA2 hS2
        have s12 := s11.box (.cells #[.int .i64 y.s, .int .u64 y.g] 34)
        have a0 := PBox.c0 (p := ⟨1, 0, 0⟩) (s11.obox (b := Ba) (by simp))
        have a1 := PBox.c1 (p := ⟨1, 0, 0⟩) (s11.obox (b := Ba) (by simp))
        have a2 := PBox.c2 (p := ⟨1, 0, 0⟩) (s11.obox (b := Ba) (by simp))
        have d8 : _ = some (Value.bool st.f) := SBox.c (s := st) (s11.obox (b := B8) (x := .cells st.cells 59) (by simp [StG.cells])) 8
        have a0l := (s11.obox (b := Ba) (x := .cells #[.int .i64 1, .int .i64 0, .int .i64 0] 55) (by simp)).lt
        have d0l := (s11.obox (b := B8) (x := .cells st.cells 59) (by simp [StG.cells])).lt
        go_wp2_with fail
        refine (dg_pop s12.swap P1 (by decide) st.f).mono ?_
        rintro e w14 ⟨rfl, s14⟩
        rw [hyH.out]
        clear a0 a1 a2 d8 a0l d0l hyH
        generalize gPop aa P1 st.f = aa2 at s14 hA2
        have e0 := HBox.c0 (h := y) (s14.obox (b := w11.heap.size) (x := .cells #[.int .i64 y.s, .int .u64 y.g] 34) (by simp))
        have e1 := HBox.c1 (h := y) (s14.obox (b := w11.heap.size) (x := .cells #[.int .i64 y.s, .int .u64 y.g] 34) (by simp))
        have el := (s14.obox (b := w11.heap.size) (x := .cells #[.int .i64 y.s, .int .u64 y.g] 34) (by simp)).lt
        go_wp2_with fail
        have s13 := ((s14.swap.box (.cells #[.int .i64 y.s, .int .u64 y.g] 34)))
      case' inr.inr.inr.inl =>
        rw [e] at hd0
        clear e
        go_upto_region 31 with (fail)
        obtain ⟨Bh, hBh⟩ : ∃ B, w9.heap.size = B := ⟨_, rfl⟩
        obtain ⟨Ba, hBa⟩ : ∃ B, w9.heap.size + 1 = B := ⟨_, rfl⟩
        simp only [hBa] at s10 ⊢
        simp only [hBh] at s10 ⊢
        generalize (w9.alloc (Obj.cells #[Value.int IntKind.i64 z, Value.int IntKind.u64 1] 34)).alloc (Obj.cells #[Value.int IntKind.i64 1, Value.int IntKind.i64 0, Value.int IntKind.i64 0] 55) = W10 at s10 ⊢
        clear hBh hBa s9 hpp hpp1 hpp2 hpl hd0 hdl
        have a0 := PBox.c0 (p := ⟨1, 0, 0⟩) (s10.obox (b := Ba) (by simp))
        have a1 := PBox.c1 (p := ⟨1, 0, 0⟩) (s10.obox (b := Ba) (by simp))
        have a2 := PBox.c2 (p := ⟨1, 0, 0⟩) (s10.obox (b := Ba) (by simp))
        have h0 := HBox.c0 (h := ⟨z, 1⟩) (s10.obox (b := Bh) (by simp))
        have h1 := HBox.c1 (h := ⟨z, 1⟩) (s10.obox (b := Bh) (by simp))
        go_wp2_with fail
        refine (dg_remove s10 P1 (by decide) ⟨z, 1⟩ hok 8 nwf8 (by have := hS.1; omega)).mono ?_
        rintro e w11 ⟨rfl, s11⟩
        clear a0 a1 a2 h0 h1
        have hE : decide (g.In (⟨z, 1⟩, 8) = some P1) = decide (aa.In (⟨z, 1⟩, 8) = some P1) := by rw [hA.i ⟨z, 1⟩ rfl]
        obtain ⟨hA2, hS2⟩ := hA.rem1 hS (x := ⟨z, 1⟩) rfl
        generalize gRem g P1 ⟨z, 1⟩ 8 = g2 at s11 hA2 hS2
        generalize decide (g.In (⟨z, 1⟩, 8) = some P1) = er at hE ⊢
        have a0 := PBox.c0 (p := ⟨1, 0, 0⟩) (s11.obox (b := Ba) (by simp))
        have a1 := PBox.c1 (p := ⟨1, 0, 0⟩) (s11.obox (b := Ba) (by simp))
        have a2 := PBox.c2 (p := ⟨1, 0, 0⟩) (s11.obox (b := Ba) (by simp))
        have h0 := HBox.c0 (h := ⟨z, 1⟩) (s11.obox (b := Bh) (by simp))
        have h1 := HBox.c1 (h := ⟨z, 1⟩) (s11.obox (b := Bh) (by simp))
        have hEh := Lib.hid hE
        clear hE
        go_wp2_with fail
        refine (dg_remove s11.swap P1 (by decide) ⟨z, 1⟩ hok 8 nwf8 (by have := hS.1; rw [← hA.row]; omega)).mono ?_
        rintro e w12 ⟨rfl, s12⟩
        rw [← hEh.out]
        clear a0 a1 a2 h0 h1 s10
        generalize gRem aa P1 ⟨z, 1⟩ 8 = aa2 at s12 hA2
        have s13 := s12.swap
        clear s11 s12 hEh
        go_wp2_with fail
      case' inr.inr.inr.inr =>
        go_wp2_with fail
        obtain ⟨Bh, hBh⟩ : ∃ B, w9.heap.size = B := ⟨_, rfl⟩
        obtain ⟨Ba, hBa⟩ : ∃ B, w9.heap.size + 1 = B := ⟨_, rfl⟩
        simp only [hBa] at s10 ⊢
        simp only [hBh] at s10 ⊢
        generalize (w9.alloc (Obj.cells #[Value.int IntKind.i64 z, Value.int IntKind.u64 1] 34)).alloc (Obj.cells #[Value.int IntKind.i64 1, Value.int IntKind.i64 0, Value.int IntKind.i64 0] 55) = W10 at s10 ⊢
        clear hBh hBa s9 hpp hpp1 hpp2 hpl hd0 hdl
        have s13 := s10
        have hA2 := hA
        have hS2 := hS.up
        obtain ⟨g2, hgg⟩ : ∃ q, g = q := ⟨_, rfl⟩
        obtain ⟨aa2, haa⟩ : ∃ q, aa = q := ⟨_, rfl⟩
        rw [haa] at s13 hA2
        rw [hgg] at s13 hA2 hS2
        clear s10 haa hgg f0 f1 f2 f3
    case' false =>
      go_wp2_with fail
      obtain ⟨z, hz, hz0, hz1⟩ : ∃ z, bits BinOp.and IntKind.i64 st.h.s 31 % 256 = z ∧ 0 ≤ z ∧ z ≤ 255 := ⟨_, rfl, by omega, by omega⟩
      rw [hz]
      have s8 := hD.box (.cells st.cells 59)
      unfold StG.cells at s8
      obtain ⟨B8, hB8⟩ : ∃ B, wr.heap.size = B := ⟨_, rfl⟩
      simp only [hB8] at s8 ⊢
      generalize wr.alloc (Obj.cells #[Value.int IntKind.i64 st.d, Value.int IntKind.i64 st.i, Value.int IntKind.i64 st.n, Value.int IntKind.i64 st.p.m, Value.int IntKind.i64 st.p.s, Value.int IntKind.i64 st.p.a, Value.int IntKind.i64 st.h.s, Value.int IntKind.u64 st.h.g, Value.bool st.f] 59) = W8 at s8 ⊢
      clear hD hB8 c0 c1 c2 c3 c4 c5 c6 c7 c8 cl hz
      refine (gone_any z W8 hz0 hz1).mono ?_
      rintro e w9 ⟨rfl, hk9⟩
      have s9 := s8.kp hk9
      clear s8 hk9
      have hpp := PBox.c0 (p := ⟨1, 0, 0⟩) (s9.obox (b := w.heap.size) (by simp))
      have hpp1 := PBox.c1 (p := ⟨1, 0, 0⟩) (s9.obox (b := w.heap.size) (by simp))
      have hpp2 := PBox.c2 (p := ⟨1, 0, 0⟩) (s9.obox (b := w.heap.size) (by simp))
      have hpl := (s9.obox (b := w.heap.size) (x := .cells #[.int .i64 1, .int .i64 0, .int .i64 0] 55) (by simp)).lt
      have hqq := PBox.c0 (p := ⟨2, 0, 0⟩) (s9.obox (b := w.heap.size + 1) (by simp))
      have hqq1 := PBox.c1 (p := ⟨2, 0, 0⟩) (s9.obox (b := w.heap.size + 1) (by simp))
      have hqq2 := PBox.c2 (p := ⟨2, 0, 0⟩) (s9.obox (b := w.heap.size + 1) (by simp))
      have hql := (s9.obox (b := w.heap.size + 1) (x := .cells #[.int .i64 2, .int .i64 0, .int .i64 0] 55) (by simp)).lt
      have hd0 := SBox.c (s := st) (s9.obox (b := B8) (x := .cells st.cells 59) (by simp [StG.cells])) 0
      have hdl := (s9.obox (b := B8) (x := .cells st.cells 59) (by simp [StG.cells])).lt
      simp only [StG.cells, List.getElem?_toArray, List.getElem?_cons_zero] at hd0
      have s10 := (s9.box (.cells #[.int .i64 z, .int .u64 2] 34)).box (.cells #[.int .i64 2, .int .i64 0, .int .i64 0] 55)
      rw [World.size_alloc] at s10
      have hok : (Hd.mk z 2).ok := zg_ok hz0 hz1 (by decide)
      rcases do_of st.d with e | e | e | e | ⟨f0, f2, f1, f3⟩
      case' inl =>
        rw [e] at hd0
        clear e
        go_upto_region 17 with (fail)
        obtain ⟨Bh, hBh⟩ : ∃ B, w9.heap.size = B := ⟨_, rfl⟩
        obtain ⟨Ba, hBa⟩ : ∃ B, w9.heap.size + 1 = B := ⟨_, rfl⟩
        simp only [hBa] at s10 ⊢
        simp only [hBh] at s10 ⊢
        generalize (w9.alloc (Obj.cells #[Value.int IntKind.i64 z, Value.int IntKind.u64 2] 34)).alloc (Obj.cells #[Value.int IntKind.i64 2, Value.int IntKind.i64 0, Value.int IntKind.i64 0] 55) = W10 at s10 ⊢
        clear hBh hBa s9 hpp hpp1 hpp2 hpl hd0 hdl hqq hqq1 hqq2 hql
        have a0 := PBox.c0 (p := ⟨2, 0, 0⟩) (s10.obox (b := Ba) (by simp))
        have a1 := PBox.c1 (p := ⟨2, 0, 0⟩) (s10.obox (b := Ba) (by simp))
        have a2 := PBox.c2 (p := ⟨2, 0, 0⟩) (s10.obox (b := Ba) (by simp))
        have h0 := HBox.c0 (h := ⟨z, 2⟩) (s10.obox (b := Bh) (by simp))
        have h1 := HBox.c1 (h := ⟨z, 2⟩) (s10.obox (b := Bh) (by simp))
        have d8 : _ = some (Value.bool st.f) := SBox.c (s := st) (s10.obox (b := B8) (x := .cells st.cells 59) (by simp [StG.cells])) 8
        go_wp2_with fail
        refine (dg_push s10 P2 (by decide) ⟨z, 2⟩ hok 8 nwf8 st.f).mono ?_
        rintro e w11 ⟨rfl, s11⟩
        clear a0 a1 a2 h0 h1 d8
        obtain ⟨hA2, hS2⟩ := hA.push2 hS (x := ⟨z, 2⟩) rfl st.f
        generalize gPush g P2 ⟨z, 2⟩ 8 st.f = g2 at s11 hA2 hS2
        generalize pushErr g P2 ⟨z, 2⟩ 8 = er at ⊢
        have s13 := s11
        obtain ⟨aa2, haa⟩ : ∃ q, aa = q := ⟨_, rfl⟩
        rw [haa] at s13 hA2
        clear s10 s11 haa
        go_wp2_with fail
      case' inr.inl =>
        rw [e] at hd0
        clear e
        go_upto_region 21 with (fail)
        obtain ⟨Bh, hBh⟩ : ∃ B, w9.heap.size = B := ⟨_, rfl⟩
        obtain ⟨Ba, hBa⟩ : ∃ B, w9.heap.size + 1 = B := ⟨_, rfl⟩
        simp only [hBa] at s10 ⊢
        simp only [hBh] at s10 ⊢
        generalize (w9.alloc (Obj.cells #[Value.int IntKind.i64 z, Value.int IntKind.u64 2] 34)).alloc (Obj.cells #[Value.int IntKind.i64 2, Value.int IntKind.i64 0, Value.int IntKind.i64 0] 55) = W10 at s10 ⊢
        clear hBh hBa s9 hpp hpp1 hpp2 hpl hd0 hdl hqq hqq1 hqq2 hql
        have a0 := PBox.c0 (p := ⟨2, 0, 0⟩) (s10.obox (b := Ba) (by simp))
        have a1 := PBox.c1 (p := ⟨2, 0, 0⟩) (s10.obox (b := Ba) (by simp))
        have a2 := PBox.c2 (p := ⟨2, 0, 0⟩) (s10.obox (b := Ba) (by simp))
        have h0 := HBox.c0 (h := ⟨z, 2⟩) (s10.obox (b := Bh) (by simp))
        have h1 := HBox.c1 (h := ⟨z, 2⟩) (s10.obox (b := Bh) (by simp))
        have d1 : _ = some (Value.int IntKind.i64 st.i) := SBox.c (s := st) (s10.obox (b := B8) (x := .cells st.cells 59) (by simp [StG.cells])) 1
        go_wp2_with fail
        refine (dg_insert s10 P2 (by decide) st.i ⟨z, 2⟩ hok 8 nwf8 (by have := hS.2; omega)).mono ?_
        rintro e w11 ⟨rfl, s11⟩
        clear a0 a1 a2 h0 h1 d1
        obtain ⟨hA2, hS2⟩ := hA.ins2 hS (x := ⟨z, 2⟩) rfl st.i
        generalize gIns g P2 st.i ⟨z, 2⟩ 8 = g2 at s11 hA2 hS2
        generalize gInsErr g P2 st.i ⟨z, 2⟩ 8 = er at ⊢
        have s13 := s11
        obtain ⟨aa2, haa⟩ : ∃ q, aa = q := ⟨_, rfl⟩
        rw [haa] at s13 hA2
        clear s10 s11 haa
        go_wp2_with fail
      case' inr.inr.inl =>
        rw [e] at hd0
        clear e
        go_upto_region 25 with (fail)
        obtain ⟨Bh, hBh⟩ : ∃ B, w9.heap.size = B := ⟨_, rfl⟩
        obtain ⟨Ba, hBa⟩ : ∃ B, w9.heap.size + 1 = B := ⟨_, rfl⟩
        simp only [hBa] at s10 ⊢
        simp only [hBh] at s10 ⊢
        generalize (w9.alloc (Obj.cells #[Value.int IntKind.i64 z, Value.int IntKind.u64 2] 34)).alloc (Obj.cells #[Value.int IntKind.i64 2, Value.int IntKind.i64 0, Value.int IntKind.i64 0] 55) = W10 at s10 ⊢
        clear hBh hBa s9 hpp hpp1 hpp2 hpl hd0 hdl hqq hqq1 hqq2 hql
        have a0 := PBox.c0 (p := ⟨2, 0, 0⟩) (s10.obox (b := Ba) (by simp))
        have a1 := PBox.c1 (p := ⟨2, 0, 0⟩) (s10.obox (b := Ba) (by simp))
        have a2 := PBox.c2 (p := ⟨2, 0, 0⟩) (s10.obox (b := Ba) (by simp))
        have d8 : _ = some (Value.bool st.f) := SBox.c (s := st) (s10.obox (b := B8) (x := .cells st.cells 59) (by simp [StG.cells])) 8
        go_wp2_with fail
        refine (dg_pop s10 P2 (by decide) st.f).mono ?_
        rintro e w11 ⟨rfl, s11⟩
        clear a0 a1 a2 d8 s10
        obtain ⟨y, yis, hy, _⟩ := endv_of g g P2 st.f rfl
        rw [hy]
        clear hy
        obtain ⟨hA2, hS2⟩ := hA.pop2 s8o hS st.f
        generalize gPop g P2 st.f = g2 at s11 hA2 hS2
        have s12 := s11.box (.cells #[.int .i64 y.s, .int .u64 y.g] 34)
        have s13 := s12
        obtain ⟨aa2, haa⟩ : ∃ q, aa = q := ⟨_, rfl⟩
        rw [haa] at s13 hA2
        clear s11 s12 haa
        go_wp2_with fail
      case' inr.inr.inr.inl =>
        rw [e] at hd0
        clear e
        go_upto_region 31 with (fail)
        obtain ⟨Bh, hBh⟩ : ∃ B, w9.heap.size = B := ⟨_, rfl⟩
        obtain ⟨Ba, hBa⟩ : ∃ B, w9.heap.size + 1 = B := ⟨_, rfl⟩
        simp only [hBa] at s10 ⊢
        simp only [hBh] at s10 ⊢
        generalize (w9.alloc (Obj.cells #[Value.int IntKind.i64 z, Value.int IntKind.u64 2] 34)).alloc (Obj.cells #[Value.int IntKind.i64 2, Value.int IntKind.i64 0, Value.int IntKind.i64 0] 55) = W10 at s10 ⊢
        clear hBh hBa s9 hpp hpp1 hpp2 hpl hd0 hdl hqq hqq1 hqq2 hql
        have a0 := PBox.c0 (p := ⟨2, 0, 0⟩) (s10.obox (b := Ba) (by simp))
        have a1 := PBox.c1 (p := ⟨2, 0, 0⟩) (s10.obox (b := Ba) (by simp))
        have a2 := PBox.c2 (p := ⟨2, 0, 0⟩) (s10.obox (b := Ba) (by simp))
        have h0 := HBox.c0 (h := ⟨z, 2⟩) (s10.obox (b := Bh) (by simp))
        have h1 := HBox.c1 (h := ⟨z, 2⟩) (s10.obox (b := Bh) (by simp))
        go_wp2_with fail
        refine (dg_remove s10 P2 (by decide) ⟨z, 2⟩ hok 8 nwf8 (by have := hS.2; omega)).mono ?_
        rintro e w11 ⟨rfl, s11⟩
        clear a0 a1 a2 h0 h1
        obtain ⟨hA2, hS2⟩ := hA.rem2 hS (x := ⟨z, 2⟩) rfl
        generalize gRem g P2 ⟨z, 2⟩ 8 = g2 at s11 hA2 hS2
        generalize decide (g.In (⟨z, 2⟩, 8) = some P2) = er at ⊢
        have s13 := s11
        obtain ⟨aa2, haa⟩ : ∃ q, aa = q := ⟨_, rfl⟩
        rw [haa] at s13 hA2
        clear s10 s11 haa
        go_wp2_with fail
      case' inr.inr.inr.inr =>
        go_wp2_with fail
        obtain ⟨Bh, hBh⟩ : ∃ B, w9.heap.size = B := ⟨_, rfl⟩
        obtain ⟨Ba, hBa⟩ : ∃ B, w9.heap.size + 1 = B := ⟨_, rfl⟩
        simp only [hBa] at s10 ⊢
        simp only [hBh] at s10 ⊢
        generalize (w9.alloc (Obj.cells #[Value.int IntKind.i64 z, Value.int IntKind.u64 2] 34)).alloc (Obj.cells #[Value.int IntKind.i64 2, Value.int IntKind.i64 0, Value.int IntKind.i64 0] 55) = W10 at s10 ⊢
        clear hBh hBa s9 hpp hpp1 hpp2 hpl hd0 hdl hqq hqq1 hqq2 hql
        have s13 := s10
        have hA2 := hA
        have hS2 := hS.up
        obtain ⟨g2, hgg⟩ : ∃ q, g = q := ⟨_, rfl⟩
        obtain ⟨aa2, haa⟩ : ∃ q, aa = q := ⟨_, rfl⟩
        rw [haa] at s13 hA2
        rw [hgg] at s13 hA2 hS2
        clear s10 haa hgg f0 f1 f2 f3
    all_goals as_aux_lemma =>
      have s14 := s13.less (bs' := [(w.heap.size, .cells #[.int .i64 1, .int .i64 0, .int .i64 0] 55), (w.heap.size + 1, .cells #[.int .i64 2, .int .i64 0, .int .i64 0] 55)]) (by simp)
      clear s13
      obtain ⟨L, K, hLn, hLg, hLa, j1, j2, j3, j4, b0, b1, b2, hne⟩ := tail_facts s14 hA2 hS2 (b := w.heap.size) (by simp)
      haveI := hne
      have hgh := Lib.hid hLg
      have hah := Lib.hid hLa
      clear hLg hLa
      refine wp_region_quiet_cls (Kp (fun _ => False) _) (by kernel_rfl) (by kernel_rfl) (Kp.refl _ _).drew ?_
      repeat (go_big_quiet_step (first
        | (go_at_call 31; first | with_reducible exact j1 _ | with_reducible exact j2 _)
        | (go_at_call 32; first | with_reducible exact j3 _ | with_reducible exact j4 _)))
      refine wpQuiet_nil ?_
      intro w15 k15
      have s15 := s14.kp k15
      clear j1 j2 j3 j4 b0 b1 b2 hne s14 k15
      go_wp2_with fail
      have hLb : (L.length : Int) ≤ 201 := by omega
      go_loopg [19] L.length (fun k v wr => ∃ j : Nat, v = .int .i64 j ∧ j + k = L.length ∧ DG w gb ab g2 aa2 [(w.heap.size, .cells #[.int .i64 1, .int .i64 0, .int .i64 0] 55), (w.heap.size + 1, .cells #[.int .i64 2, .int .i64 0, .int .i64 0] 55)] wr)
      case atStart => exact ⟨0, rfl, by omega, s15⟩
      case round =>
        clear s15
        obtain ⟨j, rfl, hjk, s16⟩ := hrel
        have a0 := PBox.c0 (p := ⟨1, 0, 0⟩) (s16.obox (b := w.heap.size) (by simp))
        have a1 := PBox.c1 (p := ⟨1, 0, 0⟩) (s16.obox (b := w.heap.size) (by simp))
        have a2 := PBox.c2 (p := ⟨1, 0, 0⟩) (s16.obox (b := w.heap.size) (by simp))
        go_wp2_with fail
        refine (dg_len s16.swap P1 (by decide)).mono ?_
        rintro e w17 ⟨rfl, k17⟩
        rw [hah.out]
        have s17 := s16.kp k17
        clear s16 k17 a0 a1 a2
        have a0 := PBox.c0 (p := ⟨1, 0, 0⟩) (s17.obox (b := w.heap.size) (by simp))
        have a1 := PBox.c1 (p := ⟨1, 0, 0⟩) (s17.obox (b := w.heap.size) (by simp))
        have a2 := PBox.c2 (p := ⟨1, 0, 0⟩) (s17.obox (b := w.heap.size) (by simp))
        cases gk with
        | zero =>
          have hj : ¬ (j : Int) < L.length := by omega
          go_wp2_with fail
          go_roundg gq
          case measure => omega
          case rel => exact ⟨i + 1, by push_cast; rfl, by omega, g2, aa2, s17, hA2, hS2⟩
        | succ gk =>
          have hj : (j : Int) < L.length := by omega
          have hjn : j < L.length := by omega
          obtain ⟨y, hy⟩ : ∃ y, L[j]? = some y := ⟨_, List.getElem?_eq_getElem hjn⟩
          have hyh := Lib.hid hy
          clear hy
          go_wp2_with fail
          refine (dg_at s17 P1 (by decide) (by rw [hgh.out]; omega) j y (by rw [hgh.out]; exact hyh.out)).mono ?_
          rintro e w18 ⟨rfl, k18⟩
          have s18 := s17.kp k18
          clear s17 k18 a0 a1 a2
          have s19 := s18.box (.cells #[.int .i64 y.s, .int .u64 y.g] 34)
          have a0 := PBox.c0 (p := ⟨1, 0, 0⟩) (s18.obox (b := w.heap.size) (by simp))
          have a1 := PBox.c1 (p := ⟨1, 0, 0⟩) (s18.obox (b := w.heap.size) (by simp))
          have a2 := PBox.c2 (p := ⟨1, 0, 0⟩) (s18.obox (b := w.heap.size) (by simp))
          have al := (s18.obox (b := w.heap.size) (x := .cells #[.int .i64 1, .int .i64 0, .int .i64 0] 55) (by simp)).lt
          go_wp2_with fail
          refine (dg_at s19.swap P1 (by decide) (by rw [hah.out]; omega) j y (by rw [hah.out]; exact hyh.out)).mono ?_
          rintro e w20 ⟨rfl, k20⟩
          have s20 := s19.kp k20
          clear s18 s19 k20 a0 a1 a2 al
          have s21 := s20.box (.cells #[.int .i64 y.s, .int .u64 y.g] 34)
          have e0 := HBox.c0 (h := y) (s20.obox (b := w18.heap.size) (x := .cells #[.int .i64 y.s, .int .u64 y.g] 34) (by simp))
          have e1 := HBox.c1 (h := y) (s20.obox (b := w18.heap.size) (x := .cells #[.int .i64 y.s, .int .u64 y.g] 34) (by simp))
          have el := (s20.obox (b := w18.heap.size) (x := .cells #[.int .i64 y.s, .int .u64 y.g] 34) (by simp)).lt
          go_wp2_with fail
          go_roundg gk
          case measure => omega
          case rel => exact ⟨j + 1, by push_cast; rfl, by omega, s21.less (by simp)⟩
end Go.Proofs.Ytimhbnlgambcaaa
