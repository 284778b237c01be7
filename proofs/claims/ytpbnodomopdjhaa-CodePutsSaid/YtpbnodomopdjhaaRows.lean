/-
  No cell of these rows narrows 'for every input' (looked for: loops, veiled, ifaces, maps, wideKeys, modest, calm, conditions, laid).
  DERIVED. THE GIVEN ROWS OF THIS SEAT. 10 by the template 'for every input the law returns true; each argument reads behind the call as it read before'; 0 by the template 'total and deterministic' (their statements: YtpbnodomopdjhaaTotals.lean).
  GIVEN WITH THE SEED: the statements are not yours to turn. If you find one false, say at which input.
  Laid BY PROGRAM, IN A SANDBOX (cutbox-rows.mjs): the forced cells as the released guide's own fill.sh prints them over the translation d76d97c4bfa60bb9… (all of the seat's roots in one cut). By AI agents, Wed Nov 11 2026. No macro, syntax, notation, axiom, sorry.
-/
import Derived.Test.YtpbnodomopdjhaaChecked
import GoSem.Claim
import GoSem.ClaimJoined
import GoSem.ClaimMapViews
import Derived.JoinedTies
import Derived.KernelRfl
namespace Go.Proofs.Ytpbnodomopdjhaa
/- THE CELL 'sum', in the pinned program and in every row, IS THE sha256 OF THE DUMP (.gsa) THAT YtpbnodomopdjhaaProg.lean LOADS. Nothing in Lean hashes anything: it is a label: what it is worth is what the hold of that sum in a sandbox is worth. -/
noncomputable def Try.pinned : Pinned := { name := "ytpbnodomopdjhaa", sum := "d76d97c4bfa60bb96708f06ef73fa7bccd7d0cb36c929a12a06ecae0b2cdeb9e", checked := Try.checked }
namespace Rows
def none {H : Type} : Left H := { results := [], args := [] }

/-- 'moneyerlaw01.EndsNumbers': WHATEVER THE INPUT: true; the input reads as it did. -/
def endsNumbersSpec : ChangeSpec := { name := "endsNumbers", fn := fun _ => fun
  | [d1, d2, d3, d4, d5] => { results := [.lit (.bool true)], args := [d1, d2, d3, d4, d5] }
  | _ => none }
def endsNumbersRow : OpenClaim := { program := "ytpbnodomopdjhaa", sum := "d76d97c4bfa60bb96708f06ef73fa7bccd7d0cb36c929a12a06ecae0b2cdeb9e", func := "moneyer/moneyerlaw01.EndsNumbers", spec := "endsNumbers", apart := false }
def EndsNumbersSaid : Prop := endsNumbersRow.holds Try.pinned (OpenSpec.ofChange endsNumbersSpec)

/-- ITS FALSE NEIGHBOUR: 'it returns false'. Refute it at one input. -/
def endsNumbersWrong : ChangeSpec := { name := "endsNumbers", fn := fun _ => fun
  | [d1, d2, d3, d4, d5] => { results := [.lit (.bool false)], args := [d1, d2, d3, d4, d5] }
  | _ => none }
def EndsNumbersWrongFalsely : Prop := endsNumbersRow.holds Try.pinned (OpenSpec.ofChange endsNumbersWrong)

/-- 'moneyerlaw01.EndsOne': WHATEVER THE INPUT: true; the input reads as it did. -/
def endsOneSpec : ChangeSpec := { name := "endsOne", fn := fun _ => fun
  | [d1, d2, d3] => { results := [.lit (.bool true)], args := [d1, d2, d3] }
  | _ => none }
def endsOneRow : OpenClaim := { program := "ytpbnodomopdjhaa", sum := "d76d97c4bfa60bb96708f06ef73fa7bccd7d0cb36c929a12a06ecae0b2cdeb9e", func := "moneyer/moneyerlaw01.EndsOne", spec := "endsOne", apart := false }
def EndsOneSaid : Prop := endsOneRow.holds Try.pinned (OpenSpec.ofChange endsOneSpec)

/-- ITS FALSE NEIGHBOUR: 'it returns false'. Refute it at one input. -/
def endsOneWrong : ChangeSpec := { name := "endsOne", fn := fun _ => fun
  | [d1, d2, d3] => { results := [.lit (.bool false)], args := [d1, d2, d3] }
  | _ => none }
def EndsOneWrongFalsely : Prop := endsOneRow.holds Try.pinned (OpenSpec.ofChange endsOneWrong)

/-- 'moneyerlaw01.EndsRows': WHATEVER THE INPUT: true; the input reads as it did. -/
def endsRowsSpec : ChangeSpec := { name := "endsRows", fn := fun _ => fun
  | [d1, d2, d3, d4] => { results := [.lit (.bool true)], args := [d1, d2, d3, d4] }
  | _ => none }
def endsRowsRow : OpenClaim := { program := "ytpbnodomopdjhaa", sum := "d76d97c4bfa60bb96708f06ef73fa7bccd7d0cb36c929a12a06ecae0b2cdeb9e", func := "moneyer/moneyerlaw01.EndsRows", spec := "endsRows", apart := false }
def EndsRowsSaid : Prop := endsRowsRow.holds Try.pinned (OpenSpec.ofChange endsRowsSpec)

/-- ITS FALSE NEIGHBOUR: 'it returns false'. Refute it at one input. -/
def endsRowsWrong : ChangeSpec := { name := "endsRows", fn := fun _ => fun
  | [d1, d2, d3, d4] => { results := [.lit (.bool false)], args := [d1, d2, d3, d4] }
  | _ => none }
def EndsRowsWrongFalsely : Prop := endsRowsRow.holds Try.pinned (OpenSpec.ofChange endsRowsWrong)

/-- 'moneyerlaw01.EndsBack': WHATEVER THE INPUT: true; the input reads as it did. -/
def endsBackSpec : ChangeSpec := { name := "endsBack", fn := fun _ => fun
  | [d1, d2, d3, d4, d5] => { results := [.lit (.bool true)], args := [d1, d2, d3, d4, d5] }
  | _ => none }
def endsBackRow : OpenClaim := { program := "ytpbnodomopdjhaa", sum := "d76d97c4bfa60bb96708f06ef73fa7bccd7d0cb36c929a12a06ecae0b2cdeb9e", func := "moneyer/moneyerlaw01.EndsBack", spec := "endsBack", apart := false }
def EndsBackSaid : Prop := endsBackRow.holds Try.pinned (OpenSpec.ofChange endsBackSpec)

/-- ITS FALSE NEIGHBOUR: 'it returns false'. Refute it at one input. -/
def endsBackWrong : ChangeSpec := { name := "endsBack", fn := fun _ => fun
  | [d1, d2, d3, d4, d5] => { results := [.lit (.bool false)], args := [d1, d2, d3, d4, d5] }
  | _ => none }
def EndsBackWrongFalsely : Prop := endsBackRow.holds Try.pinned (OpenSpec.ofChange endsBackWrong)

/-- 'moneyerlaw01.EndsFresh': WHATEVER THE INPUT: true; the input reads as it did. -/
def endsFreshSpec : ChangeSpec := { name := "endsFresh", fn := fun _ => fun
  | [d1, d2, d3] => { results := [.lit (.bool true)], args := [d1, d2, d3] }
  | _ => none }
def endsFreshRow : OpenClaim := { program := "ytpbnodomopdjhaa", sum := "d76d97c4bfa60bb96708f06ef73fa7bccd7d0cb36c929a12a06ecae0b2cdeb9e", func := "moneyer/moneyerlaw01.EndsFresh", spec := "endsFresh", apart := false }
def EndsFreshSaid : Prop := endsFreshRow.holds Try.pinned (OpenSpec.ofChange endsFreshSpec)

/-- ITS FALSE NEIGHBOUR: 'it returns false'. Refute it at one input. -/
def endsFreshWrong : ChangeSpec := { name := "endsFresh", fn := fun _ => fun
  | [d1, d2, d3] => { results := [.lit (.bool false)], args := [d1, d2, d3] }
  | _ => none }
def EndsFreshWrongFalsely : Prop := endsFreshRow.holds Try.pinned (OpenSpec.ofChange endsFreshWrong)

/-- 'moneyerlaw11.CodeReads': WHATEVER THE INPUT: true; the input reads as it did. -/
def codeReadsSpec : ChangeSpec := { name := "codeReads", fn := fun _ => fun
  | [d] => { results := [.lit (.bool true)], args := [d] }
  | _ => none }
def codeReadsRow : OpenClaim := { program := "ytpbnodomopdjhaa", sum := "d76d97c4bfa60bb96708f06ef73fa7bccd7d0cb36c929a12a06ecae0b2cdeb9e", func := "moneyer/moneyerlaw11.CodeReads", spec := "codeReads", unfollowed := true, recurses := true, apart := false }
def CodeReadsSaid : Prop := codeReadsRow.holds Try.pinned (OpenSpec.ofChange codeReadsSpec)

/-- ITS FALSE NEIGHBOUR: 'it returns false'. Refute it at one input. -/
def codeReadsWrong : ChangeSpec := { name := "codeReads", fn := fun _ => fun
  | [d] => { results := [.lit (.bool false)], args := [d] }
  | _ => none }
def CodeReadsWrongFalsely : Prop := codeReadsRow.holds Try.pinned (OpenSpec.ofChange codeReadsWrong)

/-- 'moneyerlaw11.CodeOnce': WHATEVER THE INPUT: true; the input reads as it did. -/
def codeOnceSpec : ChangeSpec := { name := "codeOnce", fn := fun _ => fun
  | [d] => { results := [.lit (.bool true)], args := [d] }
  | _ => none }
def codeOnceRow : OpenClaim := { program := "ytpbnodomopdjhaa", sum := "d76d97c4bfa60bb96708f06ef73fa7bccd7d0cb36c929a12a06ecae0b2cdeb9e", func := "moneyer/moneyerlaw11.CodeOnce", spec := "codeOnce", unfollowed := true, recurses := true, apart := false }
def CodeOnceSaid : Prop := codeOnceRow.holds Try.pinned (OpenSpec.ofChange codeOnceSpec)

/-- ITS FALSE NEIGHBOUR: 'it returns false'. Refute it at one input. -/
def codeOnceWrong : ChangeSpec := { name := "codeOnce", fn := fun _ => fun
  | [d] => { results := [.lit (.bool false)], args := [d] }
  | _ => none }
def CodeOnceWrongFalsely : Prop := codeOnceRow.holds Try.pinned (OpenSpec.ofChange codeOnceWrong)

/-- 'moneyerlaw11.CodeJoin': WHATEVER THE INPUT: true; the input reads as it did. -/
def codeJoinSpec : ChangeSpec := { name := "codeJoin", fn := fun _ => fun
  | [d1, d2] => { results := [.lit (.bool true)], args := [d1, d2] }
  | _ => none }
def codeJoinRow : OpenClaim := { program := "ytpbnodomopdjhaa", sum := "d76d97c4bfa60bb96708f06ef73fa7bccd7d0cb36c929a12a06ecae0b2cdeb9e", func := "moneyer/moneyerlaw11.CodeJoin", spec := "codeJoin", unfollowed := true, recurses := true, apart := false }
def CodeJoinSaid : Prop := codeJoinRow.holds Try.pinned (OpenSpec.ofChange codeJoinSpec)

/-- ITS FALSE NEIGHBOUR: 'it returns false'. Refute it at one input. -/
def codeJoinWrong : ChangeSpec := { name := "codeJoin", fn := fun _ => fun
  | [d1, d2] => { results := [.lit (.bool false)], args := [d1, d2] }
  | _ => none }
def CodeJoinWrongFalsely : Prop := codeJoinRow.holds Try.pinned (OpenSpec.ofChange codeJoinWrong)

/-- 'moneyerlaw11.CodeBack': WHATEVER THE INPUT: true; the input reads as it did. -/
def codeBackSpec : ChangeSpec := { name := "codeBack", fn := fun _ => fun
  | [d] => { results := [.lit (.bool true)], args := [d] }
  | _ => none }
def codeBackRow : OpenClaim := { program := "ytpbnodomopdjhaa", sum := "d76d97c4bfa60bb96708f06ef73fa7bccd7d0cb36c929a12a06ecae0b2cdeb9e", func := "moneyer/moneyerlaw11.CodeBack", spec := "codeBack", unfollowed := true, recurses := true, apart := false }
def CodeBackSaid : Prop := codeBackRow.holds Try.pinned (OpenSpec.ofChange codeBackSpec)

/-- ITS FALSE NEIGHBOUR: 'it returns false'. Refute it at one input. -/
def codeBackWrong : ChangeSpec := { name := "codeBack", fn := fun _ => fun
  | [d] => { results := [.lit (.bool false)], args := [d] }
  | _ => none }
def CodeBackWrongFalsely : Prop := codeBackRow.holds Try.pinned (OpenSpec.ofChange codeBackWrong)

/-- 'moneyerlaw11.CodePuts': WHATEVER THE INPUT: true; the input reads as it did. -/
def codePutsSpec : ChangeSpec := { name := "codePuts", fn := fun _ => fun
  | [d] => { results := [.lit (.bool true)], args := [d] }
  | _ => none }
def codePutsRow : OpenClaim := { program := "ytpbnodomopdjhaa", sum := "d76d97c4bfa60bb96708f06ef73fa7bccd7d0cb36c929a12a06ecae0b2cdeb9e", func := "moneyer/moneyerlaw11.CodePuts", spec := "codePuts", unfollowed := true, recurses := true, apart := false }
def CodePutsSaid : Prop := codePutsRow.holds Try.pinned (OpenSpec.ofChange codePutsSpec)

/-- ITS FALSE NEIGHBOUR: 'it returns false'. Refute it at one input. -/
def codePutsWrong : ChangeSpec := { name := "codePuts", fn := fun _ => fun
  | [d] => { results := [.lit (.bool false)], args := [d] }
  | _ => none }
def CodePutsWrongFalsely : Prop := codePutsRow.holds Try.pinned (OpenSpec.ofChange codePutsWrong)

/- THE SECOND FORM. 'bulk': how many values and letters a reading holds, each counted each time it is reached (what is shared counts as often as it is met; a slice's spare places count too). A statement '..UptoSaid' is the law's where the arguments, and the package variables that the reading takes, are together of bulk at most 1048576: NARROWER than '..Said'. Prove '..Said' where nothing that the law and all that it calls make is longer than what came in: it says more and counts as full. Else prove '..UptoSaid'. A law counts once. -/
mutual
def uptoBulk {H : Type} : DataW H → Nat
  | .lit (.string bytes) => bytes.length + 1
  | .lit _ => 1
  | .nil => 1
  | .ptr d => uptoBulk d + 1
  | .slice elems spare => uptoBulkAll elems + uptoBulkAll spare + 1
  | .agg parts => uptoBulkAll parts + 1
  | .iface _ d => uptoBulk d + 1
  | .map entries => uptoBulkEntries entries + 1
  | .held _ => 1
def uptoBulkAll {H : Type} : List (DataW H) → Nat
  | [] => 0
  | d :: r => uptoBulk d + uptoBulkAll r
def uptoBulkEntries {H : Type} : List (Lit × DataW H) → Nat
  | [] => 0
  | x :: r => uptoBulkEntry x + uptoBulkEntries r
def uptoBulkEntry {H : Type} : Lit × DataW H → Nat
  | (.string bytes, d) => bytes.length + uptoBulk d + 1
  | (_, d) => uptoBulk d + 1
 end
def uptoSmall : (H : Type) → List (DataW H) → Bool := fun _ ds => decide (uptoBulkAll ds ≤ 1048576)
def OpenSpec.upto (s : _root_.Go.ChangeSpec) : _root_.Go.OpenSpec := { _root_.Go.OpenSpec.ofChange s with cond := some uptoSmall }

/-- 'moneyerlaw01.EndsNumbers', WHERE WHAT IT READS IS OF BULK AT MOST 1048576: true; the input reads as it did. -/
def endsNumbersUptoRow : OpenClaim := { program := "ytpbnodomopdjhaa", sum := "d76d97c4bfa60bb96708f06ef73fa7bccd7d0cb36c929a12a06ecae0b2cdeb9e", func := "moneyer/moneyerlaw01.EndsNumbers", spec := "endsNumbers", apart := false, narrowed := true }
def EndsNumbersUptoSaid : Prop := endsNumbersUptoRow.holds Try.pinned (OpenSpec.upto endsNumbersSpec)

/-- 'moneyerlaw01.EndsOne', WHERE WHAT IT READS IS OF BULK AT MOST 1048576: true; the input reads as it did. -/
def endsOneUptoRow : OpenClaim := { program := "ytpbnodomopdjhaa", sum := "d76d97c4bfa60bb96708f06ef73fa7bccd7d0cb36c929a12a06ecae0b2cdeb9e", func := "moneyer/moneyerlaw01.EndsOne", spec := "endsOne", apart := false, narrowed := true }
def EndsOneUptoSaid : Prop := endsOneUptoRow.holds Try.pinned (OpenSpec.upto endsOneSpec)

/-- 'moneyerlaw01.EndsRows', WHERE WHAT IT READS IS OF BULK AT MOST 1048576: true; the input reads as it did. -/
def endsRowsUptoRow : OpenClaim := { program := "ytpbnodomopdjhaa", sum := "d76d97c4bfa60bb96708f06ef73fa7bccd7d0cb36c929a12a06ecae0b2cdeb9e", func := "moneyer/moneyerlaw01.EndsRows", spec := "endsRows", apart := false, narrowed := true }
def EndsRowsUptoSaid : Prop := endsRowsUptoRow.holds Try.pinned (OpenSpec.upto endsRowsSpec)

/-- 'moneyerlaw01.EndsBack', WHERE WHAT IT READS IS OF BULK AT MOST 1048576: true; the input reads as it did. -/
def endsBackUptoRow : OpenClaim := { program := "ytpbnodomopdjhaa", sum := "d76d97c4bfa60bb96708f06ef73fa7bccd7d0cb36c929a12a06ecae0b2cdeb9e", func := "moneyer/moneyerlaw01.EndsBack", spec := "endsBack", apart := false, narrowed := true }
def EndsBackUptoSaid : Prop := endsBackUptoRow.holds Try.pinned (OpenSpec.upto endsBackSpec)

/-- 'moneyerlaw01.EndsFresh', WHERE WHAT IT READS IS OF BULK AT MOST 1048576: true; the input reads as it did. -/
def endsFreshUptoRow : OpenClaim := { program := "ytpbnodomopdjhaa", sum := "d76d97c4bfa60bb96708f06ef73fa7bccd7d0cb36c929a12a06ecae0b2cdeb9e", func := "moneyer/moneyerlaw01.EndsFresh", spec := "endsFresh", apart := false, narrowed := true }
def EndsFreshUptoSaid : Prop := endsFreshUptoRow.holds Try.pinned (OpenSpec.upto endsFreshSpec)

/-- 'moneyerlaw11.CodeReads', WHERE WHAT IT READS IS OF BULK AT MOST 1048576: true; the input reads as it did. -/
def codeReadsUptoRow : OpenClaim := { program := "ytpbnodomopdjhaa", sum := "d76d97c4bfa60bb96708f06ef73fa7bccd7d0cb36c929a12a06ecae0b2cdeb9e", func := "moneyer/moneyerlaw11.CodeReads", spec := "codeReads", unfollowed := true, recurses := true, apart := false, narrowed := true }
def CodeReadsUptoSaid : Prop := codeReadsUptoRow.holds Try.pinned (OpenSpec.upto codeReadsSpec)

/-- 'moneyerlaw11.CodeOnce', WHERE WHAT IT READS IS OF BULK AT MOST 1048576: true; the input reads as it did. -/
def codeOnceUptoRow : OpenClaim := { program := "ytpbnodomopdjhaa", sum := "d76d97c4bfa60bb96708f06ef73fa7bccd7d0cb36c929a12a06ecae0b2cdeb9e", func := "moneyer/moneyerlaw11.CodeOnce", spec := "codeOnce", unfollowed := true, recurses := true, apart := false, narrowed := true }
def CodeOnceUptoSaid : Prop := codeOnceUptoRow.holds Try.pinned (OpenSpec.upto codeOnceSpec)

/-- 'moneyerlaw11.CodeJoin', WHERE WHAT IT READS IS OF BULK AT MOST 1048576: true; the input reads as it did. -/
def codeJoinUptoRow : OpenClaim := { program := "ytpbnodomopdjhaa", sum := "d76d97c4bfa60bb96708f06ef73fa7bccd7d0cb36c929a12a06ecae0b2cdeb9e", func := "moneyer/moneyerlaw11.CodeJoin", spec := "codeJoin", unfollowed := true, recurses := true, apart := false, narrowed := true }
def CodeJoinUptoSaid : Prop := codeJoinUptoRow.holds Try.pinned (OpenSpec.upto codeJoinSpec)

/-- 'moneyerlaw11.CodeBack', WHERE WHAT IT READS IS OF BULK AT MOST 1048576: true; the input reads as it did. -/
def codeBackUptoRow : OpenClaim := { program := "ytpbnodomopdjhaa", sum := "d76d97c4bfa60bb96708f06ef73fa7bccd7d0cb36c929a12a06ecae0b2cdeb9e", func := "moneyer/moneyerlaw11.CodeBack", spec := "codeBack", unfollowed := true, recurses := true, apart := false, narrowed := true }
def CodeBackUptoSaid : Prop := codeBackUptoRow.holds Try.pinned (OpenSpec.upto codeBackSpec)

/-- 'moneyerlaw11.CodePuts', WHERE WHAT IT READS IS OF BULK AT MOST 1048576: true; the input reads as it did. -/
def codePutsUptoRow : OpenClaim := { program := "ytpbnodomopdjhaa", sum := "d76d97c4bfa60bb96708f06ef73fa7bccd7d0cb36c929a12a06ecae0b2cdeb9e", func := "moneyer/moneyerlaw11.CodePuts", spec := "codePuts", unfollowed := true, recurses := true, apart := false, narrowed := true }
def CodePutsUptoSaid : Prop := codePutsUptoRow.holds Try.pinned (OpenSpec.upto codePutsSpec)

end Rows
end Go.Proofs.Ytpbnodomopdjhaa
