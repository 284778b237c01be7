/-
  No cell of these rows narrows 'for every input' (looked for: loops, veiled, ifaces, maps, wideKeys, modest, calm, conditions, laid).
  DERIVED. THE GIVEN ROWS OF THIS SEAT. 6 by the template 'for every input the law returns true; each argument reads behind the call as it read before'; 0 by the template 'total and deterministic' (their statements: YtejablcdpakgoaaTotals.lean).
  GIVEN WITH THE SEED: the statements are not yours to turn. If you find one false, say at which input.
  Laid BY PROGRAM, IN A SANDBOX (cutbox-rows.mjs): the forced cells as the released guide's own fill.sh prints them over the translation 9a20214044f4de93… (all of the seat's roots in one cut). By AI agents, Wed Nov 11 2026. No macro, syntax, notation, axiom, sorry.
-/
import Derived.Test.YtejablcdpakgoaaChecked
import GoSem.Claim
import GoSem.ClaimJoined
import GoSem.ClaimMapViews
import Derived.JoinedTies
import Derived.KernelRfl
namespace Go.Proofs.Ytejablcdpakgoaa
/- THE CELL 'sum', in the pinned program and in every row, IS THE sha256 OF THE DUMP (.gsa) THAT YtejablcdpakgoaaProg.lean LOADS. Nothing in Lean hashes anything: it is a label: what it is worth is what the hold of that sum in a sandbox is worth. -/
noncomputable def Try.pinned : Pinned := { name := "ytejablcdpakgoaa", sum := "9a20214044f4de93f00c8442c08189fd5c1266c14fcdc1be9ed3a58d1a3d46ef", checked := Try.checked }
namespace Rows
def none {H : Type} : Left H := { results := [], args := [] }

/-- 'moneyerlaw06.CoinBack': WHATEVER THE INPUT: true; the input reads as it did. -/
def coinBackSpec : ChangeSpec := { name := "coinBack", fn := fun _ => fun
  | [d1, d2, d3, d4] => { results := [.lit (.bool true)], args := [d1, d2, d3, d4] }
  | _ => none }
def coinBackRow : OpenClaim := { program := "ytejablcdpakgoaa", sum := "9a20214044f4de93f00c8442c08189fd5c1266c14fcdc1be9ed3a58d1a3d46ef", func := "moneyer/moneyerlaw06.CoinBack", spec := "coinBack", apart := false }
def CoinBackSaid : Prop := coinBackRow.holds Try.pinned (OpenSpec.ofChange coinBackSpec)

/-- ITS FALSE NEIGHBOUR: 'it returns false'. Refute it at one input. -/
def coinBackWrong : ChangeSpec := { name := "coinBack", fn := fun _ => fun
  | [d1, d2, d3, d4] => { results := [.lit (.bool false)], args := [d1, d2, d3, d4] }
  | _ => none }
def CoinBackWrongFalsely : Prop := coinBackRow.holds Try.pinned (OpenSpec.ofChange coinBackWrong)

/-- 'moneyerlaw06.CoinPuts': WHATEVER THE INPUT: true; the input reads as it did. -/
def coinPutsSpec : ChangeSpec := { name := "coinPuts", fn := fun _ => fun
  | [d1, d2] => { results := [.lit (.bool true)], args := [d1, d2] }
  | _ => none }
def coinPutsRow : OpenClaim := { program := "ytejablcdpakgoaa", sum := "9a20214044f4de93f00c8442c08189fd5c1266c14fcdc1be9ed3a58d1a3d46ef", func := "moneyer/moneyerlaw06.CoinPuts", spec := "coinPuts", apart := false }
def CoinPutsSaid : Prop := coinPutsRow.holds Try.pinned (OpenSpec.ofChange coinPutsSpec)

/-- ITS FALSE NEIGHBOUR: 'it returns false'. Refute it at one input. -/
def coinPutsWrong : ChangeSpec := { name := "coinPuts", fn := fun _ => fun
  | [d1, d2] => { results := [.lit (.bool false)], args := [d1, d2] }
  | _ => none }
def CoinPutsWrongFalsely : Prop := coinPutsRow.holds Try.pinned (OpenSpec.ofChange coinPutsWrong)

/-- 'moneyerlaw06.CoinSame': WHATEVER THE INPUT: true; the input reads as it did. -/
def coinSameSpec : ChangeSpec := { name := "coinSame", fn := fun _ => fun
  | [d1, d2] => { results := [.lit (.bool true)], args := [d1, d2] }
  | _ => none }
def coinSameRow : OpenClaim := { program := "ytejablcdpakgoaa", sum := "9a20214044f4de93f00c8442c08189fd5c1266c14fcdc1be9ed3a58d1a3d46ef", func := "moneyer/moneyerlaw06.CoinSame", spec := "coinSame", apart := false }
def CoinSameSaid : Prop := coinSameRow.holds Try.pinned (OpenSpec.ofChange coinSameSpec)

/-- ITS FALSE NEIGHBOUR: 'it returns false'. Refute it at one input. -/
def coinSameWrong : ChangeSpec := { name := "coinSame", fn := fun _ => fun
  | [d1, d2] => { results := [.lit (.bool false)], args := [d1, d2] }
  | _ => none }
def CoinSameWrongFalsely : Prop := coinSameRow.holds Try.pinned (OpenSpec.ofChange coinSameWrong)

/-- 'moneyerlaw06.CoinGets': WHATEVER THE INPUT: true; the input reads as it did. -/
def coinGetsSpec : ChangeSpec := { name := "coinGets", fn := fun _ => fun
  | [d1, d2] => { results := [.lit (.bool true)], args := [d1, d2] }
  | _ => none }
def coinGetsRow : OpenClaim := { program := "ytejablcdpakgoaa", sum := "9a20214044f4de93f00c8442c08189fd5c1266c14fcdc1be9ed3a58d1a3d46ef", func := "moneyer/moneyerlaw06.CoinGets", spec := "coinGets", apart := false }
def CoinGetsSaid : Prop := coinGetsRow.holds Try.pinned (OpenSpec.ofChange coinGetsSpec)

/-- ITS FALSE NEIGHBOUR: 'it returns false'. Refute it at one input. -/
def coinGetsWrong : ChangeSpec := { name := "coinGets", fn := fun _ => fun
  | [d1, d2] => { results := [.lit (.bool false)], args := [d1, d2] }
  | _ => none }
def CoinGetsWrongFalsely : Prop := coinGetsRow.holds Try.pinned (OpenSpec.ofChange coinGetsWrong)

/-- 'moneyerlaw06.CoinFresh': WHATEVER THE INPUT: true; the input reads as it did. -/
def coinFreshSpec : ChangeSpec := { name := "coinFresh", fn := fun _ => fun
  | [d1, d2] => { results := [.lit (.bool true)], args := [d1, d2] }
  | _ => none }
def coinFreshRow : OpenClaim := { program := "ytejablcdpakgoaa", sum := "9a20214044f4de93f00c8442c08189fd5c1266c14fcdc1be9ed3a58d1a3d46ef", func := "moneyer/moneyerlaw06.CoinFresh", spec := "coinFresh", apart := false }
def CoinFreshSaid : Prop := coinFreshRow.holds Try.pinned (OpenSpec.ofChange coinFreshSpec)

/-- ITS FALSE NEIGHBOUR: 'it returns false'. Refute it at one input. -/
def coinFreshWrong : ChangeSpec := { name := "coinFresh", fn := fun _ => fun
  | [d1, d2] => { results := [.lit (.bool false)], args := [d1, d2] }
  | _ => none }
def CoinFreshWrongFalsely : Prop := coinFreshRow.holds Try.pinned (OpenSpec.ofChange coinFreshWrong)

/-- 'moneyerlaw06.CoinOrders': WHATEVER THE INPUT: true; the input reads as it did. -/
def coinOrdersSpec : ChangeSpec := { name := "coinOrders", fn := fun _ => fun
  | [d1, d2, d3] => { results := [.lit (.bool true)], args := [d1, d2, d3] }
  | _ => none }
def coinOrdersRow : OpenClaim := { program := "ytejablcdpakgoaa", sum := "9a20214044f4de93f00c8442c08189fd5c1266c14fcdc1be9ed3a58d1a3d46ef", func := "moneyer/moneyerlaw06.CoinOrders", spec := "coinOrders", inPlace := ["internal/bytealg.Compare"], apart := false }
def CoinOrdersSaid : Prop := coinOrdersRow.holds Try.pinned (OpenSpec.ofChange coinOrdersSpec)

/-- ITS FALSE NEIGHBOUR: 'it returns false'. Refute it at one input. -/
def coinOrdersWrong : ChangeSpec := { name := "coinOrders", fn := fun _ => fun
  | [d1, d2, d3] => { results := [.lit (.bool false)], args := [d1, d2, d3] }
  | _ => none }
def CoinOrdersWrongFalsely : Prop := coinOrdersRow.holds Try.pinned (OpenSpec.ofChange coinOrdersWrong)

/- THE SECOND FORM. 'bulk': how many values and letters a reading holds, each counted each time it is reached (what is shared counts as often as it is met; a slice's spare places count too). A statement '..UptoSaid' is the law's where the arguments, and the package variables that the reading takes, are together of bulk at most 1048576: NARROWER than '..Said'. Prove '..Said' where nothing that the law and all that it calls make is longer than what came in: it says more and counts as full. Else prove '..UptoSaid'. A law counts once. -/
mutual
def uptoBulk {H : Type} : DataW H → Nat
  | .lit (.string bytes) => bytes.length + 1
  | .lit _ => 1
  | .nil => 1
  | .ptr d => uptoBulk d + 1
  | .slice elems spare => uptoBulkAll elems + uptoBulkAll spare + 1
  | .agg parts => uptoBulkAll parts + 1
  | .iface _ d => uptoBulk d + 1
  | .map entries => uptoBulkEntries entries + 1
  | .held _ => 1
def uptoBulkAll {H : Type} : List (DataW H) → Nat
  | [] => 0
  | d :: r => uptoBulk d + uptoBulkAll r
def uptoBulkEntries {H : Type} : List (Lit × DataW H) → Nat
  | [] => 0
  | x :: r => uptoBulkEntry x + uptoBulkEntries r
def uptoBulkEntry {H : Type} : Lit × DataW H → Nat
  | (.string bytes, d) => bytes.length + uptoBulk d + 1
  | (_, d) => uptoBulk d + 1
 end
def uptoSmall : (H : Type) → List (DataW H) → Bool := fun _ ds => decide (uptoBulkAll ds ≤ 1048576)
def OpenSpec.upto (s : _root_.Go.ChangeSpec) : _root_.Go.OpenSpec := { _root_.Go.OpenSpec.ofChange s with cond := some uptoSmall }

/-- 'moneyerlaw06.CoinBack', WHERE WHAT IT READS IS OF BULK AT MOST 1048576: true; the input reads as it did. -/
def coinBackUptoRow : OpenClaim := { program := "ytejablcdpakgoaa", sum := "9a20214044f4de93f00c8442c08189fd5c1266c14fcdc1be9ed3a58d1a3d46ef", func := "moneyer/moneyerlaw06.CoinBack", spec := "coinBack", apart := false, narrowed := true }
def CoinBackUptoSaid : Prop := coinBackUptoRow.holds Try.pinned (OpenSpec.upto coinBackSpec)

/-- 'moneyerlaw06.CoinPuts', WHERE WHAT IT READS IS OF BULK AT MOST 1048576: true; the input reads as it did. -/
def coinPutsUptoRow : OpenClaim := { program := "ytejablcdpakgoaa", sum := "9a20214044f4de93f00c8442c08189fd5c1266c14fcdc1be9ed3a58d1a3d46ef", func := "moneyer/moneyerlaw06.CoinPuts", spec := "coinPuts", apart := false, narrowed := true }
def CoinPutsUptoSaid : Prop := coinPutsUptoRow.holds Try.pinned (OpenSpec.upto coinPutsSpec)

/-- 'moneyerlaw06.CoinSame', WHERE WHAT IT READS IS OF BULK AT MOST 1048576: true; the input reads as it did. -/
def coinSameUptoRow : OpenClaim := { program := "ytejablcdpakgoaa", sum := "9a20214044f4de93f00c8442c08189fd5c1266c14fcdc1be9ed3a58d1a3d46ef", func := "moneyer/moneyerlaw06.CoinSame", spec := "coinSame", apart := false, narrowed := true }
def CoinSameUptoSaid : Prop := coinSameUptoRow.holds Try.pinned (OpenSpec.upto coinSameSpec)

/-- 'moneyerlaw06.CoinGets', WHERE WHAT IT READS IS OF BULK AT MOST 1048576: true; the input reads as it did. -/
def coinGetsUptoRow : OpenClaim := { program := "ytejablcdpakgoaa", sum := "9a20214044f4de93f00c8442c08189fd5c1266c14fcdc1be9ed3a58d1a3d46ef", func := "moneyer/moneyerlaw06.CoinGets", spec := "coinGets", apart := false, narrowed := true }
def CoinGetsUptoSaid : Prop := coinGetsUptoRow.holds Try.pinned (OpenSpec.upto coinGetsSpec)

/-- 'moneyerlaw06.CoinFresh', WHERE WHAT IT READS IS OF BULK AT MOST 1048576: true; the input reads as it did. -/
def coinFreshUptoRow : OpenClaim := { program := "ytejablcdpakgoaa", sum := "9a20214044f4de93f00c8442c08189fd5c1266c14fcdc1be9ed3a58d1a3d46ef", func := "moneyer/moneyerlaw06.CoinFresh", spec := "coinFresh", apart := false, narrowed := true }
def CoinFreshUptoSaid : Prop := coinFreshUptoRow.holds Try.pinned (OpenSpec.upto coinFreshSpec)

/-- 'moneyerlaw06.CoinOrders', WHERE WHAT IT READS IS OF BULK AT MOST 1048576: true; the input reads as it did. -/
def coinOrdersUptoRow : OpenClaim := { program := "ytejablcdpakgoaa", sum := "9a20214044f4de93f00c8442c08189fd5c1266c14fcdc1be9ed3a58d1a3d46ef", func := "moneyer/moneyerlaw06.CoinOrders", spec := "coinOrders", inPlace := ["internal/bytealg.Compare"], apart := false, narrowed := true }
def CoinOrdersUptoSaid : Prop := coinOrdersUptoRow.holds Try.pinned (OpenSpec.upto coinOrdersSpec)

end Rows
end Go.Proofs.Ytejablcdpakgoaa
