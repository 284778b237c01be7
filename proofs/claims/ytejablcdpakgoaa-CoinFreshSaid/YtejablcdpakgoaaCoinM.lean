/- Coins as bytes, in plain Lean: what layer 6 computes. A point: 32 bytes, a number, a height. -/
import Derived.Test.YtejablcdpakgoaaEndsM
namespace Go.Proofs.Ytejablcdpakgoaa.Co
open En
set_option linter.unusedVariables false
set_option linter.unusedSimpArgs false

@[ext] structure Pt where
  tx : List Int
  n : Int
  h : Int
deriving DecidableEq
@[ext] structure Cn where
  p : Pt
  v : Int
  base : Bool
  l : List Int
deriving DecidableEq
structure Pt.ok (p : Pt) : Prop where
  len : p.tx.length = 32
  isB : IsB p.tx
  n : 0 ≤ p.n ∧ p.n ≤ 65535
  h : 0 ≤ p.h ∧ p.h ≤ 4294967295
structure Cn.ok (c : Cn) : Prop where
  p : c.p.ok
  v : 0 ≤ c.v ∧ c.v < 18446744073709551616
  l : IsB c.l
def zeroPt : Pt := ⟨List.replicate 32 0, 0, 0⟩
def zeroCn : Cn := ⟨zeroPt, 0, false, []⟩
theorem zeroPt_ok : zeroPt.ok := ⟨by decide, by unfold IsB zeroPt; decide, ⟨by decide, by decide⟩, ⟨by decide, by decide⟩⟩
theorem zeroCn_ok : zeroCn.ok := ⟨zeroPt_ok, ⟨by decide, by decide⟩, IsB.nil⟩

def maxM : Int := 1125899906842624
def putPF (p : Pt) : List Int := p.tx ++ lowF p.n 2 ++ lowF p.h 4
def mayO (v : Int) (l : List Int) : Bool := decide (v ≤ maxM ∧ l.length ≤ 100)
def putOF (v : Int) (l : List Int) : List Int × Int := if mayO v l = true then (lowF v 8 ++ rowF l, 0) else ([], 2)
def baseF (b : Bool) : Int := if b then 1 else 0
def putCF (c : Cn) : List Int × Int := if mayO c.v c.l = true then (putPF c.p ++ lowF c.v 8 ++ [baseF c.base] ++ rowF c.l, 0) else ([], 2)
/-- a point of 38 bytes -/
def ptF (l : List Int) : Pt := ⟨l.take 32, (getF l 32 2).1, (getF l 34 4).1⟩
def getPF (b : List Int) (at_ : Int) : Pt × Int × Int :=
  if (partF b at_ 38).2 = 0 then (ptF (partF b at_ 38).1, at_ + 38, 0) else (zeroPt, 0, (partF b at_ 38).2)
def valueF (b : List Int) (at_ : Int) : Int × Int := if (getF b at_ 8).2 = 0 ∧ maxM < (getF b at_ 8).1 then ((getF b at_ 8).1, 5) else getF b at_ 8
def getOF (b : List Int) (at_ : Int) : Int × List Int × Int × Int :=
  if (valueF b at_).2 = 0 then
    (if (getRowF b (at_ + 8) 100).2.2 = 0 then ((valueF b at_).1, (getRowF b (at_ + 8) 100).1, (getRowF b (at_ + 8) 100).2.1, 0) else (0, [], 0, (getRowF b (at_ + 8) 100).2.2))
  else (0, [], 0, (valueF b at_).2)
def getCF (b : List Int) (at_ : Int) : Cn × Int × Int :=
  if (getPF b at_).2.2 = 0 then
    (if (valueF b (at_ + 38)).2 = 0 then
      (if (getF b (at_ + 46) 1).2 = 0 then
        (if 1 < (getF b (at_ + 46) 1).1 then (zeroCn, 0, 5)
         else if (getRowF b (at_ + 47) 100).2.2 = 0 then
          (⟨(getPF b at_).1, (valueF b (at_ + 38)).1, decide ((getF b (at_ + 46) 1).1 = 1), (getRowF b (at_ + 47) 100).1⟩, (getRowF b (at_ + 47) 100).2.1, 0)
         else (zeroCn, 0, (getRowF b (at_ + 47) 100).2.2))
       else (zeroCn, 0, (getF b (at_ + 46) 1).2))
     else (zeroCn, 0, (valueF b (at_ + 38)).2))
  else (zeroCn, 0, (getPF b at_).2.2)
def readCF (b : List Int) : Cn × Int :=
  if (getCF b 0).2.2 = 0 then (if (getCF b 0).2.1 < b.length then (zeroCn, 5) else ((getCF b 0).1, 0)) else (zeroCn, (getCF b 0).2.2)
/-- the order of points: that of their lists of numbers -/
def Pt.key (p : Pt) : List Int := p.tx ++ [p.n, p.h]
def lexB : List Int → List Int → Bool
  | [], [] => false
  | [], _ :: _ => true
  | _ :: _, [] => false
  | x :: xs, y :: ys => if x = y then lexB xs ys else decide (x < y)
def lessF (a b : Pt) : Bool := lexB a.key b.key
end Go.Proofs.Ytejablcdpakgoaa.Co
