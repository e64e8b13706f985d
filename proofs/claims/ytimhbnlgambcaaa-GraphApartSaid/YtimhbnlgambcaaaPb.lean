/- What Index, At, Remove, Deep of package tree make of the nodes: definitions, no program. -/
import Derived.Test.YtimhbnlgambcaaaPa
namespace Go.Proofs.Ytimhbnlgambcaaa
open Go.RowKit

def idxH : Nat → Hp → Nat → Int → Option Int
  | 0, _, _, _ => .none
  | k + 1, H, x, i =>
    (H x).bind fun X => match X.up with
      | .none => some i
      | some u => (whichH H x).bind fun wh => (H u).bind fun U =>
        if wh = true then (sizeH H U.l).bind fun a => idxH k H u (wrap64 (i + wrap64 (a + 1)))
        else idxH k H u i

def atH : Nat → Hp → Nat → Int → Option (Int × Int)
  | 0, _, _, _ => .none
  | k + 1, H, x, i =>
    (H x).bind fun X => (sizeH H X.l).bind fun left =>
    if i = left then some (X.s, X.g)
    else if i < left then X.l.bind fun c => atH k H c i
    else X.r.bind fun c => atH k H c (wrap64 (i - wrap64 (left + 1)))

def deepH : Nat → Hp → Option Nat → Option Int
  | _, _, .none => some 0
  | 0, _, some _ => .none
  | k + 1, H, some x => (H x).bind fun X => (deepH k H X.l).bind fun a => (deepH k H X.r).bind fun b => some (wrap64 (1 + max a b))

/-- The least from a node down. -/
def lowH : Nat → Hp → Nat → Option Nat
  | 0, _, _ => .none
  | k + 1, H, y => (H y).bind fun Y => match Y.l with
    | .none => some y
    | some c => lowH k H c

/-- One less, from a node up. -/
def lessH : Nat → Hp → Option Nat → Option Hp
  | _, H, .none => some H
  | 0, _, some _ => .none
  | k + 1, H, some p => (H p).bind fun P => lessH k (upd H p (·.setN (wrap64 (P.n - 1)))) P.up

/-- Behind the exchange: node x goes, which has one child at most. -/
def cutH (k : Nat) (root : Option Nat) (H : Hp) (x : Nat) : Option (Option Nat × Hp) :=
  (H x).bind fun X => (lessH k H X.up).bind fun H1 => (H1 x).bind fun X1 =>
  (whichH H1 x).bind fun s =>
  (hangH root H1 x (match X1.l with | .none => X1.r | some l => some l)).bind fun q =>
  match (match X1.l with | .none => X1.r | some l => some l) with
  | some c => (q.2 c).bind fun _ => some (q.1, upd q.2 c (·.setRed false))
  | .none => (q.2 x).bind fun X2 =>
    if X2.red = false then
      match X1.up with
      | .none => some q
      | some _ => fillsH k q.1 q.2 X1.up s
    else some q

/-- Which node goes, and what the exchange leaves: the handles of the two nodes, where there are two. -/
def swapH (k : Nat) (H : Hp) (x : Nat) : Option (Hp × Nat × Option (Int × Int)) :=
  (H x).bind fun X =>
  match X.l, X.r with
  | some _, some r => (lowH k H r).bind fun y => (H y).bind fun Y => if y = x then .none else
    some (upd (upd H x (·.setH Y.s Y.g)) y (·.setH X.s X.g), y, some (Y.s, Y.g))
  | _, _ => some (H, x, .none)

end Go.Proofs.Ytimhbnlgambcaaa
