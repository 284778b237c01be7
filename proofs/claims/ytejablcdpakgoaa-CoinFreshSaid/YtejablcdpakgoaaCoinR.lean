/- Rules for the walk: a whole point or coin is loaded. -/
import Derived.Test.YtejablcdpakgoaaCoinE
namespace Go.Proofs.Ytejablcdpakgoaa
open Go.RowKit Go.Proofs En Co
set_option linter.unusedVariables false
set_option linter.unusedSimpArgs false

/-- the n cells of block b from offset o on -/
def cellsAt (w : World) (b o n : Nat) : Array Value := ((List.range n).map fun j => (w.cell? ⟨b, o + j, none⟩).getD undef).toArray
def hasAt (w : World) (b o n : Nat) : Prop := ∀ j, j < n → (w.cell? ⟨b, o + j, none⟩).isSome = true
theorem hasAt_of {w : World} {b o n : Nat} {cs : List Value} (h : w.rangeAt b o cs) (hl : cs.length = n) : hasAt w b o n := by
  intro j hj
  have hjl : j < cs.length := by omega
  rw [h j _ (List.getElem?_eq_getElem hjl)]
  rfl
theorem cellsAt_of {w : World} {b o n : Nat} {cs : List Value} (h : w.rangeAt b o cs) (hl : cs.length = n) : cellsAt w b o n = cs.toArray := by
  unfold cellsAt
  congr 1
  apply List.ext_getElem?
  intro j
  by_cases hj : j < n
  · rw [List.getElem?_map, List.getElem?_range hj]
    have hjl : j < cs.length := by omega
    have hc := List.getElem?_eq_getElem hjl
    rw [Option.map_some, h j _ hc, hc]
    rfl
  · rw [List.getElem?_eq_none (by simp; omega), List.getElem?_eq_none (by omega)]
theorem range_at {w : World} {b o n : Nat} (h : hasAt w b o n) : w.rangeAt b o (cellsAt w b o n).toList := by
  intro j v hv
  unfold cellsAt at hv
  rw [List.toList_toArray, List.getElem?_map] at hv
  by_cases hj : j < n
  · rw [List.getElem?_range hj] at hv
    obtain ⟨u, hu⟩ := Option.isSome_iff_exists.1 (h j hj)
    rw [Option.map_some, hu] at hv
    rw [hu]
    simpa using hv
  · rw [List.getElem?_eq_none (by simp; omega)] at hv
    cases hv
theorem loadAt_rule {P : Program} (T : TypeId) (d : TypeDesc) (n : Nat) (hu : P.underlying T = some d) (hd : d.isRow = true) (hi : (P.info? T).map (·.size) = some n) (w : World) (b o : Nat) (h : hasAt w b o n) :
    (Instr.loadAt T (.pointer (some ⟨b, o, none⟩))).run P w = .ok (.agg (cellsAt w b o n)) w := by
  have hl : (cellsAt w b o n).toList.length = n := by unfold cellsAt; simp
  have := run_loadAt_mid w b o T _ d (range_at h) hu hd (by rw [hl]; exact hi)
  simpa using this
/-- the same, under a name of its own -/
def ld_point (v : Value) : Sem Value := Instr.loadAt 27 v
theorem ld_point_eq (v : Value) : Instr.loadAt 27 v = ld_point v := rfl
theorem ld_point_run (w : World) (b o : Nat) (h : hasAt w b o 34) : (ld_point (.pointer (some ⟨b, o, none⟩))).run Try.prog w = .ok (.agg (cellsAt w b o 34)) w :=
  loadAt_rule _ _ _ Try.underlying27 rfl size_pt w b o h
/-- the same, under a name of its own -/
def ld_coin (v : Value) : Sem Value := Instr.loadAt 31 v
theorem ld_coin_eq (v : Value) : Instr.loadAt 31 v = ld_coin v := rfl
theorem ld_coin_run (w : World) (b o : Nat) (h : hasAt w b o 37) : (ld_coin (.pointer (some ⟨b, o, none⟩))).run Try.prog w = .ok (.agg (cellsAt w b o 37)) w :=
  loadAt_rule _ _ _ Try.underlying31 rfl size_coin w b o h
/-- the same, under a name of its own -/
def ld_hash (v : Value) : Sem Value := Instr.loadAt 23 v
theorem ld_hash_eq (v : Value) : Instr.loadAt 23 v = ld_hash v := rfl
theorem ld_hash_run (w : World) (b o : Nat) (h : hasAt w b o 32) : (ld_hash (.pointer (some ⟨b, o, none⟩))).run Try.prog w = .ok (.agg (cellsAt w b o 32)) w :=
  loadAt_rule _ _ _ Try.underlying23 rfl size_hash w b o h
end Go.Proofs.Ytejablcdpakgoaa
