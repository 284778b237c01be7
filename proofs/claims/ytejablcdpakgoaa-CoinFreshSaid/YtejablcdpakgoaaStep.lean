/- append at a step of a region that draws its order; make of an empty row with room. -/
import Derived.Test.YtejablcdpakgoaaBase
import Derived.RegionTactic
import Derived.OwnWalk
namespace Go.Proofs.Ytejablcdpakgoaa
open Go.RowKit Go.Proofs
set_option linter.unusedVariables false
set_option linter.unusedSimpArgs false

theorem wp_appN {P : Program} (w : World) {o : Oper} {a : Act} {K : Act → World → Prop} {Q : Exit → Act → World → Prop} (s x : Operand) (t : TypeId)
    (ho : o.op = .call { callee := .builtin .append, args := #[s, x], argTypes := #[t, t] })
    (base : Nat) (e : TypeId) (k : IntKind) (bytes : Nat) (ht : P.underlying t = some (.slice e)) (hinf : (P.info? e).map (fun i => (i.zero, i.size, i.bytes)) = some (some (.int k 0), 1, bytes))
    (A : Option Addr) (n c : Nat) (xs : List Int) (hs : a.eval s = .slice A n c) (hown : OwnN w base e k A n c xs)
    (B : Option Addr) (m d : Nat) (ys : List Int) (hx : a.eval x = .slice B m d) (hr : RdN w k B m ys)
    (h63 : n + m ≤ maxLen) (hbytes : (n + m) * bytes ≤ 140737488355328) (hbase : base ≤ w.heap.size)
    (h : ∀ A' c' w', OwnN w' base e k A' (n + m) c' (xs ++ ys) → w.grownBy w' (blk A) → (A' = A ∨ A' = some ⟨w.heap.size, 0, none⟩) → K (a.put o.dst (.slice A' (n + m) c')) w') :
    o.wp P a w K Q := by
  obtain ⟨i, hi, hz, hsz, hby⟩ := info_of hinf
  obtain ⟨A', c', w', hrun, h2, h3, h4⟩ := run_app (P := P) w base t o.type e i (.int k 0) 1 bytes (Num k) ht hi hz hsz hby rfl (by omega) (fun u hu => by
    have : u = .int k 0 := by simpa [Value.cells] using hu
    exact ⟨0, this⟩) A n c (ns k xs) hown B m d (ns k ys) hr (fun u hu => num_one (ns_num k ys u hu)) (ns_num k ys) h63 hbytes hbase
  rw [← ns_append] at h2
  unfold Oper.wp execOp
  simp only [ho, resolve, invoke, builtin, Sem.run_bind, Sem.run_pure, Result.andThen_ok, List.map_toArray, List.map_cons, List.map_nil, hs, hx, hrun]
  exact h _ _ _ h2 h3 h4
theorem step_appN {P : Program} (w : World) {ops : Array Oper} {o : Oper} {a : Act} {K : Act → World → Prop} {Q : Exit → Act → World → Prop} {E : Prop} (hgd : o.guard = none) (s x : Operand) (t : TypeId)
    (ho : o.op = .call { callee := .builtin .append, args := #[s, x], argTypes := #[t, t] })
    (base : Nat) (e : TypeId) (k : IntKind) (bytes : Nat) (ht : P.underlying t = some (.slice e)) (hinf : (P.info? e).map (fun i => (i.zero, i.size, i.bytes)) = some (some (.int k 0), 1, bytes))
    (A : Option Addr) (n c : Nat) (xs : List Int) (hs : a.eval s = .slice A n c) (hown : OwnN w base e k A n c xs)
    (B : Option Addr) (m d : Nat) (ys : List Int) (hx : a.eval x = .slice B m d) (hr : RdN w k B m ys)
    (h63 : n + m ≤ maxLen) (hbytes : (n + m) * bytes ≤ 140737488355328) (hbase : base ≤ w.heap.size)
    (h : ∀ A' c' w', OwnN w' base e k A' (n + m) c' (xs ++ ys) → w.grownBy w' (blk A) → (A' = A ∨ A' = some ⟨w.heap.size, 0, none⟩) → K (a.put o.dst (.slice A' (n + m) c')) w') :
    if Region.wanted o (yielded ops a.tmps) = true then Oper.wp P o a w K Q else E := by
  have hw : Region.wanted o (yielded ops a.tmps) = true := by simp [Region.wanted, hgd]
  rw [if_pos hw]
  exact wp_appN w s x t ho base e k bytes ht hinf A n c xs hs hown B m d ys hx hr h63 hbytes hbase h

theorem OwnN.laid {w : World} {base : Nat} {e : TypeId} {k : IntKind} (xs : List Int) (m n : Nat) (hb : base ≤ w.heap.size) (hm : n ≤ m) (hl : m ≤ maxLen) (hs : xs.length = m) :
    OwnN (w.alloc (.cells (ns k xs).toArray e)) base e k (some ⟨w.heap.size, 0, none⟩) n m (xs.take n) := by
  have h := Own.laid (base := base) (e := e) (size := 1) (G := Num k) w (ns k xs).toArray m n hb hm hl (by simp [ns_length, hs]) (by simpa using ns_num k xs)
  unfold OwnN
  rw [show ns k (xs.take n) = (ns k xs).take n from by unfold ns; rw [List.map_take]]
  simpa using h
end Go.Proofs.Ytejablcdpakgoaa
