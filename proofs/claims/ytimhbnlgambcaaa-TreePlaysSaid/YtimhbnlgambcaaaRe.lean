/- The walk of TreePlays. -/
import Derived.Test.YtimhbnlgambcaaaRd
import Derived.Test.YtimhbnlgambcaaaLd
namespace Go.Proofs.Ytimhbnlgambcaaa
open Go.RowKit Go.BigFrame

def sob (rm : Bool) (p : Int) (h : Hd) : Obj := .cells #[.bool rm, .int .i64 p, .int .i64 h.s, .int .u64 h.g] 36
section
variable {W : World} {B : Nat} {rm : Bool} {p : Int} {h : Hd}
theorem sob_c0 (hb : OBox W B (sob rm p h)) : W.cell? ⟨B, 0, .none⟩ = some (.bool rm) := by simp [World.cell?, show W.heap[B]? = _ from hb, sob]
theorem sob_c1 (hb : OBox W B (sob rm p h)) : W.cell? ⟨B, 1, .none⟩ = some (.int .i64 p) := by simp [World.cell?, show W.heap[B]? = _ from hb, sob]
theorem sob_c2 (hb : OBox W B (sob rm p h)) : W.cell? ⟨B, 2, .none⟩ = some (.int .i64 h.s) := by simp [World.cell?, show W.heap[B]? = _ from hb, sob]
theorem sob_c3 (hb : OBox W B (sob rm p h)) : W.cell? ⟨B, 3, .none⟩ = some (.int .u64 h.g) := by simp [World.cell?, show W.heap[B]? = _ from hb, sob]
end

/-- What the walk is told of the script: each of its steps lies in old memory. -/
def IsSteps (w : World) (a : Option Addr) (len : Nat) : Prop := ∀ i, i < len → ∃ (b o : Nat) (rm : Bool) (p : Int) (h : Hd), a = some ⟨b, o, .none⟩ ∧ h.ok ∧ (Lit.int .i64 p).wf = true ∧
  ∀ wr, Below w.heap.size w wr → wr.cell? ⟨b, o + i * 4, .none⟩ = some (.bool rm) ∧ wr.cell? ⟨b, o + i * 4 + 1, .none⟩ = some (.int .i64 p) ∧ wr.cell? ⟨b, o + i * 4 + 2, .none⟩ = some (.int .i64 h.s) ∧ wr.cell? ⟨b, o + i * 4 + 3, .none⟩ = some (.int .u64 h.g)

/-- What the reference's At says. -/
def PosOf (L : List Hd) (h : Hd) (r : Int) (n : Int) (is : Bool) : Prop := (∃ k : Nat, L[k]? = some h ∧ r = k ∧ n = k ∧ is = true) ∨ (h ∉ L ∧ r = -1 ∧ n = 0 ∧ is = false)
theorem PosOf.of (L : List Hd) (h : Hd) : ∃ r n is, PosOf L h r n is := by
  by_cases hm : h ∈ L
  · obtain ⟨k, hk⟩ := List.getElem?_of_mem hm
    exact ⟨k, k, true, .inl ⟨k, hk, rfl, rfl, rfl⟩⟩
  · exact ⟨-1, 0, false, .inr ⟨hm, rfl, rfl, rfl⟩⟩

section
variable {w0 w w' : World} {tb rb : Nat} {L M : List Hd} {bs : List (Nat × Obj)}
theorem pl_pos (h : PL w0 tb rb L M bs w) (nd : M.Nodup) {x : Hd} {r n : Int} {is : Bool} (hp : PosOf M x r n is) (small : M.length ≤ 100000) :
    Calls Try.prog 11 #[.pointer (some ⟨rb, 0, .none⟩), .agg #[.int .i64 x.s, .int .u64 x.g]] w fun e w' => e = .returned (.int .i64 r) ∧ Kp (fun _ => False) w w' := by
  rcases hp with ⟨k, hk, rfl, rfl, rfl⟩ | ⟨hn, rfl, rfl, rfl⟩
  · exact ref_at_in w _ rb M h.rl nd x k hk small
  · exact ref_at_out w _ rb M h.rl x hn small
theorem pl_index_pos (h : PL w0 tb rb L M bs w) {x : Hd} (hx : x.ok) {r n : Int} {is : Bool} (hp : PosOf L x r n is) (small : L.length < 1099511627776) :
    Calls Try.prog 17 #[.pointer (some ⟨tb, 0, .none⟩), .agg #[.int .i64 x.s, .int .u64 x.g]] w fun e w' => e = .returned (.tuple #[.int .i64 n, .bool is]) ∧ PL w0 tb rb L M bs w' ∧ Kp (fun _ => False) w w' := by
  rcases hp with ⟨k, hk, rfl, rfl, rfl⟩ | ⟨hn, rfl, rfl, rfl⟩
  · exact pl_index_in h hk small
  · exact pl_index_out h hn hx small
theorem pl_remove_in (h : PL w0 tb rb L M bs w) {k : Nat} {x : Hd} (hx : L[k]? = some x) (small : L.length < 1099511627776) :
    Calls Try.prog 12 #[.pointer (some ⟨tb, 0, .none⟩), .agg #[.int .i64 x.s, .int .u64 x.g]] w fun e w' =>
      e = .returned (.tuple #[.int .i64 k, .bool true]) ∧ PL w0 tb rb (L.take k ++ L.drop (k + 1)) M bs w' := by
  have hm := List.mem_of_getElem? hx
  have nd := h.nodup
  refine (pl_remove h x (h.ok x hm) small).mono ?_
  rintro e w' (⟨a, _⟩ | ⟨pre, post, rfl, rfl, hS⟩)
  · exact absurd hm a
  · obtain rfl := nodup_mid_unique nd hx
    refine ⟨rfl, ?_⟩
    have e1 : (pre ++ x :: post).take pre.length = pre := by simp
    have e2 : (pre ++ x :: post).drop (pre.length + 1) = post := by simp
    rw [e1, e2]
    exact hS
theorem pl_remove_out (h : PL w0 tb rb L M bs w) {x : Hd} (hn : x ∉ L) (hx : x.ok) (small : L.length < 1099511627776) :
    Calls Try.prog 12 #[.pointer (some ⟨tb, 0, .none⟩), .agg #[.int .i64 x.s, .int .u64 x.g]] w fun e w' =>
      e = .returned (.tuple #[.int .i64 0, .bool false]) ∧ PL w0 tb rb L M bs w' := by
  refine (pl_remove h x hx small).mono ?_
  rintro e w' (⟨_, rfl, hS⟩ | ⟨pre, post, rfl, _, _⟩)
  · exact ⟨rfl, hS⟩
  · exact absurd (by simp) hn
/-- What At says of a place. -/
def AtOf (L : List Hd) (p : Int) (y : Hd) (is : Bool) : Prop := (∃ k : Nat, p = k ∧ L[k]? = some y ∧ is = true) ∨ (¬ (0 ≤ p ∧ p < L.length) ∧ y = ⟨0, 0⟩ ∧ is = false)
theorem AtOf.of (L : List Hd) (p : Int) : ∃ y is, AtOf L p y is := by
  by_cases h : 0 ≤ p ∧ p < L.length
  · obtain ⟨k, rfl⟩ : ∃ k : Nat, p = k := ⟨p.toNat, by omega⟩
    exact ⟨_, true, .inl ⟨k, rfl, List.getElem?_eq_getElem (by omega), rfl⟩⟩
  · exact ⟨_, false, .inr ⟨h, rfl, rfl⟩⟩
theorem pl_at_of (h : PL w0 tb rb L M bs w) {p : Int} {y : Hd} {is : Bool} (hp : AtOf L p y is) (small : L.length < 1099511627776) :
    Calls Try.prog 16 #[.pointer (some ⟨tb, 0, .none⟩), .int .i64 p] w fun e w' => e = .returned (.tuple #[.agg #[.int .i64 y.s, .int .u64 y.g], .bool is]) ∧ PL w0 tb rb L M bs w' ∧ Kp (fun _ => False) w w' := by
  rcases hp with ⟨k, rfl, hk, rfl⟩ | ⟨hn, rfl, rfl⟩
  · exact pl_at_in h hk small
  · exact pl_at_out h hn small
end
theorem insList_nodup {L : List Hd} (nd : L.Nodup) (i : Int) (x : Hd) : (insList L i x).Nodup := by
  unfold insList
  split
  · exact nd
  · split
    · exact nd
    · rename_i h1 h2
      have e : L.take i.toNat ++ L.drop i.toNat = L := List.take_append_drop _ _
      rw [List.nodup_append] at *
      have nd' : (L.take i.toNat ++ L.drop i.toNat).Nodup := by rw [e]; exact nd
      rw [List.nodup_append] at nd'
      refine ⟨nd'.1, List.nodup_cons.2 ⟨fun hm => h2 (List.mem_of_mem_drop hm), nd'.2.1⟩, fun a ha b hb => ?_⟩
      rcases List.mem_cons.1 hb with rfl | hb
      · rintro rfl; exact h2 (List.mem_of_mem_take ha)
      · exact nd'.2.2 a ha b hb
theorem insList_len (L : List Hd) (i : Int) (x : Hd) : (insList L i x).length ≤ L.length + 1 := by
  unfold insList
  split
  · omega
  · split
    · omega
    · simp; omega
end Go.Proofs.Ytimhbnlgambcaaa
