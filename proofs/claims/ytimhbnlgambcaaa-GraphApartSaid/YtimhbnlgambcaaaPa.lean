/- The tree's nodes as plain data, and what the inner functions of package tree make of them: definitions, no program. -/
import Derived.IntWalk
namespace Go.Proofs.Ytimhbnlgambcaaa
open Go.RowKit

structure Nd where
  s : Int
  g : Int
  l : Option Nat
  r : Option Nat
  up : Option Nat
  n : Int
  red : Bool

/-- The nodes that are there, by their blocks. -/
abbrev Hp := Nat → Option Nd

def upd (H : Hp) (b : Nat) (f : Nd → Nd) : Hp := fun k => if k = b then (H k).map f else H k

theorem upd_same (H : Hp) (b : Nat) (f : Nd → Nd) : upd H b f b = (H b).map f := by simp [upd]
theorem upd_other (H : Hp) (b k : Nat) (f : Nd → Nd) (h : k ≠ b) : upd H b f k = H k := by simp [upd, h]
theorem upd_dom (H : Hp) (b k : Nat) (f : Nd → Nd) : (upd H b f k).isSome = (H k).isSome := by
  unfold upd; split <;> simp

def Nd.kid (x : Nd) : Bool → Option Nat
  | false => x.l
  | true => x.r
def Nd.setKid (x : Nd) (s : Bool) (p : Option Nat) : Nd :=
  match s with
  | false => { x with l := p }
  | true => { x with r := p }
def Nd.setUp (x : Nd) (p : Option Nat) : Nd := { x with up := p }
def Nd.setN (x : Nd) (n : Int) : Nd := { x with n := n }
def Nd.setRed (x : Nd) (b : Bool) : Nd := { x with red := b }
def Nd.setH (x : Nd) (s g : Int) : Nd := { x with s := s, g := g }

def bi : Bool → Int
  | false => 0
  | true => 1

def sizeH (H : Hp) : Option Nat → Option Int
  | .none => some 0
  | some b => (H b).map (·.n)
def redH (H : Hp) : Option Nat → Option Bool
  | .none => some false
  | some b => (H b).map (·.red)
def whichH (H : Hp) (b : Nat) : Option Bool :=
  (H b).bind fun x => match x.up with
    | .none => some false
    | some u => (H u).bind fun U => match U.r with
      | .none => some false
      | some c => if c = b then some true else (H c).map fun _ => false
def hangH (root : Option Nat) (H : Hp) (old : Nat) (x : Option Nat) : Option (Option Nat × Hp) :=
  (H old).bind fun O =>
  (match O.up with
    | .none => some (x, H)
    | some u => (whichH H old).bind fun k => some (root, upd H u (·.setKid k x))).bind fun p =>
  match x with
  | .none => some p
  | some c => (H c).bind fun _ => some (p.1, upd p.2 c (·.setUp O.up))
def countsH (H : Hp) (x : Nat) : Option Hp :=
  (H x).bind fun X => (sizeH H X.l).bind fun a => (sizeH H X.r).bind fun b =>
  some (upd H x (·.setN (wrap64 (wrap64 (1 + a) + b))))
def turnH (root : Option Nat) (H : Hp) (x : Nat) (s : Bool) : Option (Option Nat × Hp) :=
  (H x).bind fun X => (X.kid (!s)).bind fun y => (hangH root H x (some y)).bind fun p =>
  (p.2 y).bind fun Y =>
  (match Y.kid s with
    | .none => some (upd p.2 x (·.setKid (!s) (Y.kid s)))
    | some c => if c = x then .none else (H c).bind fun _ => some (upd (upd p.2 x (·.setKid (!s) (Y.kid s))) c (·.setUp (some x)))).bind fun H3 =>
  (countsH (upd (upd H3 y (·.setKid s (some x))) x (·.setUp (some y))) x).bind fun H6 =>
  (countsH H6 y).bind fun H7 => some (p.1, H7)

def finH (root : Option Nat) (H : Hp) : Option (Option Nat × Hp) :=
  root.bind fun r => (H r).map fun _ => (some r, upd H r (·.setRed false))

/-- The last part of a round of settles: p's side is right; g goes down. -/
def settles2H (root : Option Nat) (H : Hp) (p g : Nat) (s : Bool) : Option (Option Nat × Hp) :=
  if p = g then .none else
  (H p).bind fun _ => (H g).bind fun _ =>
  (turnH root (upd (upd H p (·.setRed false)) g (·.setRed true)) g (!s)).bind fun q => finH q.1 q.2

def settlesH : Nat → Option Nat → Hp → Nat → Option (Option Nat × Hp)
  | 0, _, _, _ => .none
  | k + 1, root, H, x =>
    (H x).bind fun X => (redH H X.up).bind fun r =>
    if r = false then finH root H else
    X.up.bind fun p => (H p).bind fun P => P.up.bind fun g => (whichH H p).bind fun s => (H g).bind fun G =>
    (redH H (G.kid (!s))).bind fun ur =>
    if ur = true then
      (G.kid (!s)).bind fun u => if u = p ∨ g = p ∨ g = u then .none else
      settlesH k root (upd (upd (upd H p (·.setRed false)) u (·.setRed false)) g (·.setRed true)) g
    else
      (whichH H x).bind fun wx =>
      if wx = s then settles2H root H p g s
      else (turnH root H p s).bind fun q => settles2H q.1 q.2 x g s

def three (H : Hp) (b p f : Nat) (r : Bool) : Hp := upd (upd (upd H b (·.setRed r)) p (·.setRed false)) f (·.setRed false)

/-- A round of fills, behind its first part: what a return leaves, or what the next round begins with. -/
def fills2H (root : Option Nat) (H : Hp) (p : Nat) (s : Bool) (b : Nat) : Option ((Option Nat × Hp) ⊕ (Hp × Option Nat × Bool)) :=
  (H p).bind fun P => (H b).bind fun B => (redH H (B.kid (!s))).bind fun fr =>
  if fr = true then
    (B.kid (!s)).bind fun f => if b = p ∨ f = b ∨ f = p then .none else
    (turnH root (three H b p f P.red) p s).bind fun q => some (.inl q)
  else
    (redH H (B.kid s)).bind fun nr =>
    if nr = true then
      (B.kid s).bind fun n => if n = b then .none else
      (turnH root (upd (upd H n (·.setRed false)) b (·.setRed true)) b (!s)).bind fun q =>
      (q.2 p).bind fun P2 => (P2.kid (!s)).bind fun b2 => (q.2 b2).bind fun B2 => (B2.kid (!s)).bind fun f2 => (q.2 f2).bind fun _ =>
      if b2 = p ∨ f2 = b2 ∨ f2 = p then .none else
      (turnH q.1 (three q.2 b2 p f2 P2.red) p s).bind fun q2 => some (.inl q2)
    else
      if b = p then .none else
      if P.red = true then some (.inl (root, upd (upd H b (·.setRed true)) p (·.setRed false)))
      else (whichH (upd H b (·.setRed true)) p).bind fun s' => some (.inr (upd H b (·.setRed true), P.up, s'))

def fillsH : Nat → Option Nat → Hp → Option Nat → Bool → Option (Option Nat × Hp)
  | 0, _, _, _, _ => .none
  | _ + 1, root, H, .none, _ => some (root, H)
  | k + 1, root, H, some p, s =>
    (H p).bind fun P => (P.kid (!s)).bind fun b => (H b).bind fun B =>
    (if B.red = true then
      if b = p then .none else
      (turnH root (upd (upd H b (·.setRed false)) p (·.setRed true)) p s).bind fun q =>
      (q.2 p).bind fun P1 => (P1.kid (!s)).bind fun b1 => some (q.1, q.2, b1)
    else some (root, H, b)).bind fun z =>
    (fills2H z.1 z.2.1 p s z.2.2).bind fun
      | .inl q => some q
      | .inr (H2, p2, s2) => fillsH k z.1 H2 p2 s2

def hadd (H : Hp) (x : Nat) (nd : Nd) : Hp := fun k => if k = x then some nd else H k

/-- Down to where the i-th is to stand: how many there are, from each node down, counted up on the way. -/
def descH : Nat → Hp → Nat → Int → Option (Hp × Nat × Bool)
  | 0, _, _, _ => .none
  | k + 1, H, at', i =>
    (H at').bind fun A => (sizeH (upd H at' (·.setN (wrap64 (A.n + 1)))) A.l).bind fun left =>
    if i > left then
      match A.r with
      | .none => some (upd H at' (·.setN (wrap64 (A.n + 1))), at', true)
      | some c => descH k (upd H at' (·.setN (wrap64 (A.n + 1)))) c (wrap64 (i - wrap64 (left + 1)))
    else
      match A.l with
      | .none => some (upd H at' (·.setN (wrap64 (A.n + 1))), at', false)
      | some c => descH k (upd H at' (·.setN (wrap64 (A.n + 1)))) c i

def insH (k : Nat) (root : Option Nat) (H : Hp) (i : Int) (x : Nat) : Option (Option Nat × Hp) :=
  match root with
  | .none => some (some x, upd H x (·.setRed false))
  | some r => (descH k H r i).bind fun q =>
    if q.2.1 = x then .none else
    (q.1 q.2.1).bind fun _ => (q.1 x).bind fun _ =>
    settlesH k root (upd (upd q.1 q.2.1 (·.setKid q.2.2 (some x))) x (·.setUp (some q.2.1))) x

end Go.Proofs.Ytimhbnlgambcaaa
