/-
  No cell of these rows narrows 'for every input' (looked for: loops, veiled, ifaces, maps, wideKeys, modest, calm, conditions, laid).
  DERIVED. THE GIVEN ROWS OF THIS SEAT. 6 by the template 'for every input the law returns true; each argument reads behind the call as it read before'; 0 by the template 'total and deterministic' (their statements: YtedbbbbjajafgaaTotals.lean).
  GIVEN WITH THE SEED: the statements are not yours to turn. If you find one false, say at which input.
  Laid BY PROGRAM, IN A SANDBOX (cutbox-rows.mjs): the forced cells as the released guide's own fill.sh prints them over the translation 287fcfcc4bafa051… (all of the seat's roots in one cut). By AI agents, Wed Nov 11 2026. No macro, syntax, notation, axiom, sorry.
-/
import Derived.Test.YtedbbbbjajafgaaChecked
import GoSem.Claim
import GoSem.ClaimJoined
import GoSem.ClaimMapViews
import Derived.JoinedTies
import Derived.KernelRfl
namespace Go.Proofs.Ytedbbbbjajafgaa
/- THE CELL 'sum', in the pinned program and in every row, IS THE sha256 OF THE DUMP (.gsa) THAT YtedbbbbjajafgaaProg.lean LOADS. Nothing in Lean hashes anything: it is a label: what it is worth is what the hold of that sum in a sandbox is worth. -/
noncomputable def Try.pinned : Pinned := { name := "ytedbbbbjajafgaa", sum := "287fcfcc4bafa051ab11d46bda02963d4a181cbcde0e4853faee4696ee0935c2", checked := Try.checked }
namespace Rows
def none {H : Type} : Left H := { results := [], args := [] }

/-- 'moneyerlaw05.PlaneBack': WHATEVER THE INPUT: true; the input reads as it did. -/
def planeBackSpec : ChangeSpec := { name := "planeBack", fn := fun _ => fun
  | [d1, d2, d3] => { results := [.lit (.bool true)], args := [d1, d2, d3] }
  | _ => none }
def planeBackRow : OpenClaim := { program := "ytedbbbbjajafgaa", sum := "287fcfcc4bafa051ab11d46bda02963d4a181cbcde0e4853faee4696ee0935c2", func := "moneyer/moneyerlaw05.PlaneBack", spec := "planeBack", inPlace := ["math.archTrunc", "math.Float64bits", "math.Float64frombits"], apart := false }
def PlaneBackSaid : Prop := planeBackRow.holds Try.pinned (OpenSpec.ofChange planeBackSpec)

/-- ITS FALSE NEIGHBOUR: 'it returns false'. Refute it at one input. -/
def planeBackWrong : ChangeSpec := { name := "planeBack", fn := fun _ => fun
  | [d1, d2, d3] => { results := [.lit (.bool false)], args := [d1, d2, d3] }
  | _ => none }
def PlaneBackWrongFalsely : Prop := planeBackRow.holds Try.pinned (OpenSpec.ofChange planeBackWrong)

/-- 'moneyerlaw05.PlaneOnce': WHATEVER THE INPUT: true; the input reads as it did. -/
def planeOnceSpec : ChangeSpec := { name := "planeOnce", fn := fun _ => fun
  | [d1, d2] => { results := [.lit (.bool true)], args := [d1, d2] }
  | _ => none }
def planeOnceRow : OpenClaim := { program := "ytedbbbbjajafgaa", sum := "287fcfcc4bafa051ab11d46bda02963d4a181cbcde0e4853faee4696ee0935c2", func := "moneyer/moneyerlaw05.PlaneOnce", spec := "planeOnce", inPlace := ["math.archTrunc", "math.Float64bits", "math.Float64frombits"], apart := false }
def PlaneOnceSaid : Prop := planeOnceRow.holds Try.pinned (OpenSpec.ofChange planeOnceSpec)

/-- ITS FALSE NEIGHBOUR: 'it returns false'. Refute it at one input. -/
def planeOnceWrong : ChangeSpec := { name := "planeOnce", fn := fun _ => fun
  | [d1, d2] => { results := [.lit (.bool false)], args := [d1, d2] }
  | _ => none }
def PlaneOnceWrongFalsely : Prop := planeOnceRow.holds Try.pinned (OpenSpec.ofChange planeOnceWrong)

/-- 'moneyerlaw05.PlaneAll': WHATEVER THE INPUT: true; the input reads as it did. -/
def planeAllSpec : ChangeSpec := { name := "planeAll", fn := fun _ => fun
  | [d1, d2] => { results := [.lit (.bool true)], args := [d1, d2] }
  | _ => none }
def planeAllRow : OpenClaim := { program := "ytedbbbbjajafgaa", sum := "287fcfcc4bafa051ab11d46bda02963d4a181cbcde0e4853faee4696ee0935c2", func := "moneyer/moneyerlaw05.PlaneAll", spec := "planeAll", inPlace := ["math.archTrunc", "math.Float64bits", "math.Float64frombits"], apart := false }
def PlaneAllSaid : Prop := planeAllRow.holds Try.pinned (OpenSpec.ofChange planeAllSpec)

/-- ITS FALSE NEIGHBOUR: 'it returns false'. Refute it at one input. -/
def planeAllWrong : ChangeSpec := { name := "planeAll", fn := fun _ => fun
  | [d1, d2] => { results := [.lit (.bool false)], args := [d1, d2] }
  | _ => none }
def PlaneAllWrongFalsely : Prop := planeAllRow.holds Try.pinned (OpenSpec.ofChange planeAllWrong)

/-- 'moneyerlaw05.PlaneParts': WHATEVER THE INPUT: true; the input reads as it did. -/
def planePartsSpec : ChangeSpec := { name := "planeParts", fn := fun _ => fun
  | [d1, d2, d3] => { results := [.lit (.bool true)], args := [d1, d2, d3] }
  | _ => none }
def planePartsRow : OpenClaim := { program := "ytedbbbbjajafgaa", sum := "287fcfcc4bafa051ab11d46bda02963d4a181cbcde0e4853faee4696ee0935c2", func := "moneyer/moneyerlaw05.PlaneParts", spec := "planeParts", inPlace := ["math.archTrunc", "math.Float64bits", "math.Float64frombits"], apart := false }
def PlanePartsSaid : Prop := planePartsRow.holds Try.pinned (OpenSpec.ofChange planePartsSpec)

/-- ITS FALSE NEIGHBOUR: 'it returns false'. Refute it at one input. -/
def planePartsWrong : ChangeSpec := { name := "planeParts", fn := fun _ => fun
  | [d1, d2, d3] => { results := [.lit (.bool false)], args := [d1, d2, d3] }
  | _ => none }
def PlanePartsWrongFalsely : Prop := planePartsRow.holds Try.pinned (OpenSpec.ofChange planePartsWrong)

/-- 'moneyerlaw05.PlaneOf': WHATEVER THE INPUT: true; the input reads as it did. -/
def planeOfSpec : ChangeSpec := { name := "planeOf", fn := fun _ => fun
  | [d] => { results := [.lit (.bool true)], args := [d] }
  | _ => none }
def planeOfRow : OpenClaim := { program := "ytedbbbbjajafgaa", sum := "287fcfcc4bafa051ab11d46bda02963d4a181cbcde0e4853faee4696ee0935c2", func := "moneyer/moneyerlaw05.PlaneOf", spec := "planeOf", inPlace := ["math.archTrunc", "math.Float64bits", "math.Float64frombits"], apart := false }
def PlaneOfSaid : Prop := planeOfRow.holds Try.pinned (OpenSpec.ofChange planeOfSpec)

/-- ITS FALSE NEIGHBOUR: 'it returns false'. Refute it at one input. -/
def planeOfWrong : ChangeSpec := { name := "planeOf", fn := fun _ => fun
  | [d] => { results := [.lit (.bool false)], args := [d] }
  | _ => none }
def PlaneOfWrongFalsely : Prop := planeOfRow.holds Try.pinned (OpenSpec.ofChange planeOfWrong)

/-- 'moneyerlaw05.PlaneBeside': WHATEVER THE INPUT: true; the input reads as it did. -/
def planeBesideSpec : ChangeSpec := { name := "planeBeside", fn := fun _ => fun
  | [d1, d2, d3, d4] => { results := [.lit (.bool true)], args := [d1, d2, d3, d4] }
  | _ => none }
def planeBesideRow : OpenClaim := { program := "ytedbbbbjajafgaa", sum := "287fcfcc4bafa051ab11d46bda02963d4a181cbcde0e4853faee4696ee0935c2", func := "moneyer/moneyerlaw05.PlaneBeside", spec := "planeBeside", inPlace := ["math.archTrunc", "math.Float64bits", "math.Float64frombits"], apart := false }
def PlaneBesideSaid : Prop := planeBesideRow.holds Try.pinned (OpenSpec.ofChange planeBesideSpec)

/-- ITS FALSE NEIGHBOUR: 'it returns false'. Refute it at one input. -/
def planeBesideWrong : ChangeSpec := { name := "planeBeside", fn := fun _ => fun
  | [d1, d2, d3, d4] => { results := [.lit (.bool false)], args := [d1, d2, d3, d4] }
  | _ => none }
def PlaneBesideWrongFalsely : Prop := planeBesideRow.holds Try.pinned (OpenSpec.ofChange planeBesideWrong)

/- THE SECOND FORM. 'bulk': how many values and letters a reading holds, each counted each time it is reached (what is shared counts as often as it is met; a slice's spare places count too). A statement '..UptoSaid' is the law's where the arguments, and the package variables that the reading takes, are together of bulk at most 1048576: NARROWER than '..Said'. Prove '..Said' where nothing that the law and all that it calls make is longer than what came in: it says more and counts as full. Else prove '..UptoSaid'. A law counts once. -/
mutual
def uptoBulk {H : Type} : DataW H → Nat
  | .lit (.string bytes) => bytes.length + 1
  | .lit _ => 1
  | .nil => 1
  | .ptr d => uptoBulk d + 1
  | .slice elems spare => uptoBulkAll elems + uptoBulkAll spare + 1
  | .agg parts => uptoBulkAll parts + 1
  | .iface _ d => uptoBulk d + 1
  | .map entries => uptoBulkEntries entries + 1
  | .held _ => 1
def uptoBulkAll {H : Type} : List (DataW H) → Nat
  | [] => 0
  | d :: r => uptoBulk d + uptoBulkAll r
def uptoBulkEntries {H : Type} : List (Lit × DataW H) → Nat
  | [] => 0
  | x :: r => uptoBulkEntry x + uptoBulkEntries r
def uptoBulkEntry {H : Type} : Lit × DataW H → Nat
  | (.string bytes, d) => bytes.length + uptoBulk d + 1
  | (_, d) => uptoBulk d + 1
 end
def uptoSmall : (H : Type) → List (DataW H) → Bool := fun _ ds => decide (uptoBulkAll ds ≤ 1048576)
def OpenSpec.upto (s : _root_.Go.ChangeSpec) : _root_.Go.OpenSpec := { _root_.Go.OpenSpec.ofChange s with cond := some uptoSmall }

/-- 'moneyerlaw05.PlaneBack', WHERE WHAT IT READS IS OF BULK AT MOST 1048576: true; the input reads as it did. -/
def planeBackUptoRow : OpenClaim := { program := "ytedbbbbjajafgaa", sum := "287fcfcc4bafa051ab11d46bda02963d4a181cbcde0e4853faee4696ee0935c2", func := "moneyer/moneyerlaw05.PlaneBack", spec := "planeBack", inPlace := ["math.archTrunc", "math.Float64bits", "math.Float64frombits"], apart := false, narrowed := true }
def PlaneBackUptoSaid : Prop := planeBackUptoRow.holds Try.pinned (OpenSpec.upto planeBackSpec)

/-- 'moneyerlaw05.PlaneOnce', WHERE WHAT IT READS IS OF BULK AT MOST 1048576: true; the input reads as it did. -/
def planeOnceUptoRow : OpenClaim := { program := "ytedbbbbjajafgaa", sum := "287fcfcc4bafa051ab11d46bda02963d4a181cbcde0e4853faee4696ee0935c2", func := "moneyer/moneyerlaw05.PlaneOnce", spec := "planeOnce", inPlace := ["math.archTrunc", "math.Float64bits", "math.Float64frombits"], apart := false, narrowed := true }
def PlaneOnceUptoSaid : Prop := planeOnceUptoRow.holds Try.pinned (OpenSpec.upto planeOnceSpec)

/-- 'moneyerlaw05.PlaneAll', WHERE WHAT IT READS IS OF BULK AT MOST 1048576: true; the input reads as it did. -/
def planeAllUptoRow : OpenClaim := { program := "ytedbbbbjajafgaa", sum := "287fcfcc4bafa051ab11d46bda02963d4a181cbcde0e4853faee4696ee0935c2", func := "moneyer/moneyerlaw05.PlaneAll", spec := "planeAll", inPlace := ["math.archTrunc", "math.Float64bits", "math.Float64frombits"], apart := false, narrowed := true }
def PlaneAllUptoSaid : Prop := planeAllUptoRow.holds Try.pinned (OpenSpec.upto planeAllSpec)

/-- 'moneyerlaw05.PlaneParts', WHERE WHAT IT READS IS OF BULK AT MOST 1048576: true; the input reads as it did. -/
def planePartsUptoRow : OpenClaim := { program := "ytedbbbbjajafgaa", sum := "287fcfcc4bafa051ab11d46bda02963d4a181cbcde0e4853faee4696ee0935c2", func := "moneyer/moneyerlaw05.PlaneParts", spec := "planeParts", inPlace := ["math.archTrunc", "math.Float64bits", "math.Float64frombits"], apart := false, narrowed := true }
def PlanePartsUptoSaid : Prop := planePartsUptoRow.holds Try.pinned (OpenSpec.upto planePartsSpec)

/-- 'moneyerlaw05.PlaneOf', WHERE WHAT IT READS IS OF BULK AT MOST 1048576: true; the input reads as it did. -/
def planeOfUptoRow : OpenClaim := { program := "ytedbbbbjajafgaa", sum := "287fcfcc4bafa051ab11d46bda02963d4a181cbcde0e4853faee4696ee0935c2", func := "moneyer/moneyerlaw05.PlaneOf", spec := "planeOf", inPlace := ["math.archTrunc", "math.Float64bits", "math.Float64frombits"], apart := false, narrowed := true }
def PlaneOfUptoSaid : Prop := planeOfUptoRow.holds Try.pinned (OpenSpec.upto planeOfSpec)

/-- 'moneyerlaw05.PlaneBeside', WHERE WHAT IT READS IS OF BULK AT MOST 1048576: true; the input reads as it did. -/
def planeBesideUptoRow : OpenClaim := { program := "ytedbbbbjajafgaa", sum := "287fcfcc4bafa051ab11d46bda02963d4a181cbcde0e4853faee4696ee0935c2", func := "moneyer/moneyerlaw05.PlaneBeside", spec := "planeBeside", inPlace := ["math.archTrunc", "math.Float64bits", "math.Float64frombits"], apart := false, narrowed := true }
def PlaneBesideUptoSaid : Prop := planeBesideUptoRow.holds Try.pinned (OpenSpec.upto planeBesideSpec)

end Rows
end Go.Proofs.Ytedbbbbjajafgaa
