/- A graph's keys and its three maps in memory. -/
import Derived.Test.YtimhbnlgambcaaaGa
import Derived.Test.YtimhbnlgambcaaaTK
namespace Go.Proofs.Ytimhbnlgambcaaa
open Go.RowKit
open Go.Maps (Keyed)

/-- A place. -/
structure Plc where
  m : Int
  s : Int
  a : Int
  deriving DecidableEq
def Plc.v (p : Plc) : Value := .agg #[.int .i64 p.m, .int .i64 p.s, .int .i64 p.a]
def Plc.ok (p : Plc) : Prop := (Lit.int .i64 p.m).wf = true ∧ (Lit.int .i64 p.s).wf = true ∧ (Lit.int .i64 p.a).wf = true
theorem Plc.v_inj : ∀ x y : Plc, x.v = y.v → x = y := by
  intro a b h; cases a; cases b; simp [Plc.v] at h; simp [h]
/-- A node of a handle; a handle at a place. -/
def keyv (x : Hd × Int) : Value := .agg #[.int .i64 x.1.s, .int .u64 x.1.g, .int .i64 x.2]
def spotv (x : Plc × Hd) : Value := .agg #[.int .i64 x.1.m, .int .i64 x.1.s, .int .i64 x.1.a, .int .i64 x.2.s, .int .u64 x.2.g]
theorem keyv_inj : ∀ x y : Hd × Int, keyv x = keyv y → x = y := by
  rintro ⟨⟨a, b⟩, c⟩ ⟨⟨d, e⟩, f⟩ h; simp [keyv] at h; simp [h]
theorem spotv_inj : ∀ x y : Plc × Hd, spotv x = spotv y → x = y := by
  rintro ⟨⟨a, b, c⟩, ⟨d, e⟩⟩ ⟨⟨a', b', c'⟩, ⟨d', e'⟩⟩ h; simp [spotv] at h; simp [h]

theorem wide55 : (match Try.prog.underlying 55 with | some (.array _ _) | some (.struct _) => true | _ => false) = true := by rw [Try.underlying55]
theorem wide117 : (match Try.prog.underlying 117 with | some (.array _ _) | some (.struct _) => true | _ => false) = true := by rw [Try.underlying117]
theorem wide122 : (match Try.prog.underlying 122 with | some (.array _ _) | some (.struct _) => true | _ => false) = true := by rw [Try.underlying122]
set_option maxRecDepth 100000 in
theorem law55 : Keyed Try.prog 55 := Keyed.of_law (deep_law_laid laidOut (m := 2) (by omega) (of_decide_eq_true (by kernel_rfl)) (by kernel_rfl) wide55)
set_option maxRecDepth 100000 in
theorem law117 : Keyed Try.prog 117 := Keyed.of_law (deep_law_laid laidOut (m := 3) (by omega) (of_decide_eq_true (by kernel_rfl)) (by kernel_rfl) wide117)
set_option maxRecDepth 100000 in
theorem law122 : Keyed Try.prog 122 := Keyed.of_law (deep_law_laid laidOut (m := 3) (by omega) (of_decide_eq_true (by kernel_rfl)) (by kernel_rfl) wide122)
theorem cells55 : Try.prog.cellsOf 55 = 3 := by kernel_rfl
theorem cells117 : Try.prog.cellsOf 117 = 3 := by kernel_rfl
theorem cells122 : Try.prog.cellsOf 122 = 5 := by kernel_rfl
theorem deep55 : Try.prog.keyType 55 = true := by kernel_rfl
theorem deep117 : Try.prog.keyType 117 = true := by kernel_rfl
theorem deep122 : Try.prog.keyType 122 = true := by kernel_rfl

theorem lits55 (d : Nat) (p : Plc) (hk : p.ok) : Try.prog.keyLits (d + 2) 55 p.v.cells.toList = some [.int .i64 p.m, .int .i64 p.s, .int .i64 p.a] := by
  obtain ⟨h1, h2, h3⟩ := hk
  simp [Program.keyLits, Try.underlying55, Try.underlying3, cells55, cells3, Plc.v, Value.cells, h1, h2, h3]
theorem lits117 (d : Nat) (x : Hd × Int) (hk : x.1.ok) (hn : (Lit.int .i64 x.2).wf = true) : Try.prog.keyLits (d + 3) 117 (keyv x).cells.toList = some [.int .i64 x.1.s, .int .u64 x.1.g, .int .i64 x.2] := by
  obtain ⟨h1, h2⟩ := hk
  simp [Program.keyLits, Try.underlying117, Try.underlying34, Try.underlying3, Try.underlying32, cells117, cells34, cells3, cells32, keyv, Value.cells, h1, h2, hn]
  rw [if_pos (by decide)]
  simp
theorem lits122 (d : Nat) (x : Plc × Hd) (hp : x.1.ok) (hk : x.2.ok) : Try.prog.keyLits (d + 3) 122 (spotv x).cells.toList = some [.int .i64 x.1.m, .int .i64 x.1.s, .int .i64 x.1.a, .int .i64 x.2.s, .int .u64 x.2.g] := by
  obtain ⟨h1, h2⟩ := hk
  obtain ⟨h3, h4, h5⟩ := hp
  simp [Program.keyLits, Try.underlying122, Try.underlying55, Try.underlying34, Try.underlying3, Try.underlying32, cells122, cells55, cells34, cells3, cells32, spotv, Value.cells, h1, h2, h3, h4, h5]
  rw [if_pos (by decide), if_pos (by decide)]
  simp
theorem sizes (n : Nat) (h : n ≤ 5) : ∃ d, Try.prog.types.size + 1 = d + n := by
  have : 5 ≤ Try.prog.types.size + 1 := of_decide_eq_true (by kernel_rfl)
  exact ⟨Try.prog.types.size + 1 - n, by omega⟩
theorem key55 (p : Plc) (hk : p.ok) : ∃ kl, keyOf Try.prog 55 p.v = some kl := by
  unfold keyOf
  rw [Try.underlying55]
  have hf : (p.v).formed Try.prog 55 = true := by simp [Plc.v, Value.formed, Try.underlying55, cells55]
  simp only [deep55, hf, Bool.and_true, if_true]
  obtain ⟨d, hd⟩ := sizes 2 (by omega)
  rw [hd, lits55 d p hk]
  exact ⟨_, rfl⟩
theorem key117 (x : Hd × Int) (hk : x.1.ok) (hn : (Lit.int .i64 x.2).wf = true) : ∃ kl, keyOf Try.prog 117 (keyv x) = some kl := by
  unfold keyOf
  rw [Try.underlying117]
  have hf : (keyv x).formed Try.prog 117 = true := by simp [keyv, Value.formed, Try.underlying117, cells117]
  simp only [deep117, hf, Bool.and_true, if_true]
  obtain ⟨d, hd⟩ := sizes 3 (by omega)
  rw [hd, lits117 d x hk hn]
  exact ⟨_, rfl⟩
theorem key122 (x : Plc × Hd) (hp : x.1.ok) (hk : x.2.ok) : ∃ kl, keyOf Try.prog 122 (spotv x) = some kl := by
  unfold keyOf
  rw [Try.underlying122]
  have hf : (spotv x).formed Try.prog 122 = true := by simp [spotv, Value.formed, Try.underlying122, cells122]
  simp only [deep122, hf, Bool.and_true, if_true]
  obtain ⟨d, hd⟩ := sizes 3 (by omega)
  rw [hd, lits122 d x hp hk]
  exact ⟨_, rfl⟩
theorem zero119 (w : World) : (zeroValue 119).run Try.prog w = .ok .nilIface w := by kernel_rfl
theorem zero55 (w : World) : (zeroValue 55).run Try.prog w = .ok (.agg #[.int .i64 0, .int .i64 0, .int .i64 0]) w := by kernel_rfl
theorem zero3 (w : World) : (zeroValue 3).run Try.prog w = .ok (.int .i64 0) w := by kernel_rfl

/-- What lies at a place: a tree, or a list; its block. -/
def rowv (x : Bool × Nat) : Value := .iface (if x.1 then 24 else 108) (.pointer (some ⟨x.2, 0, .none⟩))

/-- The graph's struct and its maps. -/
structure GM (w : World) (gb rm im bm : Nat) (B : Plc → Option (Bool × Nat)) (In : Hd × Int → Option Plc) (By : Plc × Hd → Option Int) : Prop where
  t : w.heap[gb]? = some (.cells #[.map (some rm), .map (some im), .map (some bm)] 107 (0, 0))
  r : ∃ n, MapE 55 Plc.v rowv w rm n B
  i : ∃ n, MapE 117 keyv Plc.v w im n In
  b : ∃ n, MapE 122 spotv (Value.int .i64) w bm n By
  ri : rm ≠ im
  rb : rm ≠ bm
  ib : im ≠ bm
section
variable {w w' : World} {gb rm im bm : Nat} {B : Plc → Option (Bool × Nat)} {In : Hd × Int → Option Plc} {By : Plc × Hd → Option Int}
theorem GM.c0 (h : GM w gb rm im bm B In By) : w.cell? ⟨gb, 0, .none⟩ = some (.map (some rm)) := by simp [World.cell?, h.t]
theorem GM.c1 (h : GM w gb rm im bm B In By) : w.cell? ⟨gb, 1, .none⟩ = some (.map (some im)) := by simp [World.cell?, h.t]
theorem GM.c2 (h : GM w gb rm im bm B In By) : w.cell? ⟨gb, 2, .none⟩ = some (.map (some bm)) := by simp [World.cell?, h.t]
theorem GM.lt (h : GM w gb rm im bm B In By) : gb < w.heap.size := lt_of_block h.t
theorem GM.lts (h : GM w gb rm im bm B In By) {k : Nat} (hk : k = gb ∨ k = rm ∨ k = im ∨ k = bm) : k < w.heap.size := by
  obtain ⟨_, hr⟩ := h.r
  obtain ⟨_, hi⟩ := h.i
  obtain ⟨_, hb⟩ := h.b
  rcases hk with rfl | rfl | rfl | rfl
  · exact h.lt
  · exact hr.lt
  · exact hi.lt
  · exact hb.lt
theorem GM.kp (h : GM w gb rm im bm B In By) {R : Nat → Prop} (hk : Kp R w w') (hd : ∀ k, k = gb ∨ k = rm ∨ k = im ∨ k = bm → ¬ R k) : GM w' gb rm im bm B In By := by
  obtain ⟨nr, hr⟩ := h.r
  obtain ⟨ni, hi⟩ := h.i
  obtain ⟨nb, hb⟩ := h.b
  exact ⟨(hk.block gb h.lt (hd gb (.inl rfl))).trans h.t, ⟨nr, hr.kp hk (hd rm (.inr (.inl rfl)))⟩, ⟨ni, hi.kp hk (hd im (.inr (.inr (.inl rfl))))⟩, ⟨nb, hb.kp hk (hd bm (.inr (.inr (.inr rfl))))⟩, h.ri, h.rb, h.ib⟩
theorem GM.kp0 (h : GM w gb rm im bm B In By) (hk : Kp (fun _ => False) w w') : GM w' gb rm im bm B In By := h.kp hk (fun _ _ h => h)
theorem GM.ne (h : GM w gb rm im bm B In By) : gb ≠ rm ∧ gb ≠ im ∧ gb ≠ bm := by
  obtain ⟨_, hr⟩ := h.r
  obtain ⟨_, hi⟩ := h.i
  obtain ⟨_, hb⟩ := h.b
  exact ⟨hr.ne h.t, hi.ne h.t, hb.ne h.t⟩
theorem GM.lookR (h : GM w gb rm im bm B In By) (p : Plc) (hp : p.ok) (m : Nat) : (Instr.lookup 103 (.map (some rm)) (.agg #[.int .i64 p.m, .int .i64 p.s, .int .i64 p.a]) false).run Try.prog (w.drewN m) = .ok (((B p).map rowv).getD .nilIface) (w.drewN m) := by
  obtain ⟨_, hr⟩ := h.r
  obtain ⟨kl, hkl⟩ := key55 p hp
  exact hr.look false law55 Try.underlying103 zero119 p hkl m
theorem GM.lookI (h : GM w gb rm im bm B In By) (x : Hd) (n : Int) (hx : x.ok) (hn : (Lit.int .i64 n).wf = true) : (Instr.lookup 104 (.map (some im)) (.agg #[.int .i64 x.s, .int .u64 x.g, .int .i64 n]) true).run Try.prog w =
    .ok (.tuple #[.agg #[.int .i64 ((In (x, n)).getD ⟨0, 0, 0⟩).m, .int .i64 ((In (x, n)).getD ⟨0, 0, 0⟩).s, .int .i64 ((In (x, n)).getD ⟨0, 0, 0⟩).a], .bool (In (x, n)).isSome]) w := by
  obtain ⟨_, hr⟩ := h.i
  obtain ⟨kl, hkl⟩ := key117 (x, n) hx hn
  have := hr.look true law117 Try.underlying104 zero55 (x, n) hkl 0
  cases e : In (x, n) <;> rw [e] at this <;> exact this
theorem GM.lookB (h : GM w gb rm im bm B In By) (p : Plc) (hp : p.ok) (x : Hd) (hx : x.ok) : (Instr.lookup 105 (.map (some bm)) (.agg #[.int .i64 p.m, .int .i64 p.s, .int .i64 p.a, .int .i64 x.s, .int .u64 x.g]) true).run Try.prog w =
    .ok (.tuple #[.int .i64 ((By (p, x)).getD 0), .bool (By (p, x)).isSome]) w := by
  obtain ⟨_, hr⟩ := h.b
  obtain ⟨kl, hkl⟩ := key122 (p, x) hp hx
  have := hr.look true law122 Try.underlying105 zero3 (p, x) hkl 0
  cases e : By (p, x) <;> rw [e] at this <;> exact this
theorem GM.lookB' (h : GM w gb rm im bm B In By) (p : Plc) (hp : p.ok) (x : Hd) (hx : x.ok) : (Instr.lookup 105 (.map (some bm)) (.agg #[.int .i64 p.m, .int .i64 p.s, .int .i64 p.a, .int .i64 x.s, .int .u64 x.g]) false).run Try.prog w =
    .ok (.int .i64 ((By (p, x)).getD 0)) w := by
  obtain ⟨_, hr⟩ := h.b
  obtain ⟨kl, hkl⟩ := key122 (p, x) hp hx
  have := hr.look false law122 Try.underlying105 zero3 (p, x) hkl 0
  cases e : By (p, x) <;> rw [e] at this <;> exact this
end
end Go.Proofs.Ytimhbnlgambcaaa
