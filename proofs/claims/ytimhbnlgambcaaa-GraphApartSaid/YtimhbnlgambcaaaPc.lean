/- The shape of a tree among the nodes, and its handles in order. No program. -/
import Derived.Test.YtimhbnlgambcaaaPb
namespace Go.Proofs.Ytimhbnlgambcaaa
open Go.RowKit

/-- A handle. -/
structure Hd where
  s : Int
  g : Int
  deriving DecidableEq

/-- A tree, its nodes by their blocks. -/
inductive TT where
  | leaf
  | node (b : Nat) (h : Hd) (red : Bool) (l r : TT)

def TT.ord : TT → List Hd
  | .leaf => []
  | .node _ h _ l r => l.ord ++ h :: r.ord
def TT.ids : TT → List Nat
  | .leaf => []
  | .node b _ _ l r => l.ids ++ b :: r.ids
def TT.ptr : TT → Option Nat
  | .leaf => .none
  | .node b _ _ _ _ => some b
def TT.cnt : TT → Nat
  | .leaf => 0
  | .node _ _ _ l r => l.cnt + r.cnt + 1

/-- The nodes hold the tree T, which stands under up. -/
def Holds (H : Hp) : Option Nat → TT → Prop
  | _, .leaf => True
  | up, .node b h red l r => H b = some ⟨h.s, h.g, l.ptr, r.ptr, up, ((l.cnt + r.cnt + 1 : Nat) : Int), red⟩ ∧ Holds H (some b) l ∧ Holds H (some b) r

end Go.Proofs.Ytimhbnlgambcaaa
