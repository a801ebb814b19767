/- What the functions answer, in plain Lean: vectors, ports. -/
import Derived.Test.YtmfoddeecplibaaDoorM0
set_option linter.unusedVariables false
set_option linter.unusedSimpArgs false
namespace Go.Ev
def inR (a b c : Int) : Bool := decide (b ≤ a ∧ a ≤ c)
def vecOk (v : Vec) : Bool := inR v.root 1 99 && inR v.cost 0 100000 && inR v.hops 0 10 && inR v.bridge 1 99 && inR v.port 0 7
def lessVec (a b : Vec) : Bool := if a.root ≠ b.root then decide (a.root < b.root) else if a.cost ≠ b.cost then decide (a.cost < b.cost) else if a.bridge ≠ b.bridge then decide (a.bridge < b.bridge) else decide (a.port < b.port)
def stepVec (v : Vec) (c : Int) : Vec × Bool :=
  if vecOk v = false ∨ inR c 1 1000 = false then (v, false)
  else if vecOk { v with cost := IntKind.wrap .i64 (v.cost + c), hops := IntKind.wrap .i64 (v.hops + 1) } = false then (v, false)
  else ({ v with cost := IntKind.wrap .i64 (v.cost + c), hops := IntKind.wrap .i64 (v.hops + 1) }, true)
def bestStep (id : Int) (s : Vec × Vec × Int) (i : Nat) (p : Pt) : Vec × Vec × Int :=
  if p.up = false ∨ p.has = false then s else
  let r := stepVec p.heard p.cost
  if r.2 = true ∧ r.1.root < id ∧ (s.2.2 < 0 ∨ lessVec r.1 s.2.1 = true) then (⟨r.1.root, r.1.cost, r.1.hops, id, 0⟩, r.1, i) else s
def bestFold (id : Int) : List Pt → Nat → Vec × Vec × Int → Vec × Vec × Int
  | [], _, s => s
  | p :: ps, i, s => bestFold id ps (i + 1) (bestStep id s i p)
def bestVec (id : Int) (l : List Pt) : Vec × Int :=
  let s := bestFold id l 0 (⟨id, 0, 0, id, 0⟩, ⟨0, 0, 0, 0, 0⟩, -1)
  (s.1, s.2.2)
def sayVec (id : Int) (l : List Pt) (port : Int) : Vec := { (bestVec id l).1 with port := port }
def roleOf (id : Int) (l : List Pt) (port : Int) : Int :=
  if inR port 0 ((l.length : Int) - 1) = false then 4
  else match l[port.toNat]? with
  | none => 4
  | some p => if p.up = false then 4 else if (bestVec id l).2 = port then 1 else if p.has = false ∨ lessVec (sayVec id l port) p.heard = true then 2 else 3
end Go.Ev
