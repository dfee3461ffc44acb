/-
  slices.Insert: the copies, and what comes of them.
-/
import Derived.Test.YtcdegmbabbgiaaaAmInsert
import Derived.Test.YtcdegmbabbgiaaaAmAppend
import Derived.Lib.Overlaps
import Derived.Lib.AppendZerosOnto
set_option linter.unusedSimpArgs false
namespace Go.AM
open Go.RowKit Go.Lib Go.Proofs Go.Shelf
variable {P : Program}

theorem run_copy {T e : TypeId} (hT : P.underlying T = some (.slice e)) {sz : Nat} (hsz : ∀ w, (Go.sizeOf e).run P w = .ok sz w) (W : World) (b o dLen : Nat) (src : Addr) (sLen k : Nat)
    (hk : Nat.min sLen dLen = k) (ws : List Value) (hws : ws.length = k * sz) (hcells : ∀ (j : Nat) (w : Value), ws[j]? = some w → W.cell? (src.add j) = some w) {c : Array Value} {ct : TypeId} {fr : Nat × Nat}
    (hb : W.heap[b]? = some (.cells c ct fr)) (ones : ∀ v ∈ ws, v.oneCell' = true) (hle : o + ws.length ≤ c.size) (hfz : ∀ j, o ≤ j → j < o + ws.length → ¬ (fr.1 ≤ j ∧ j < fr.2)) :
    ∃ W', (∀ ty dc sc, (Builtin.copy_ #[T, T] ty #[.slice (some ⟨b, o, none⟩) dLen dc, .slice (some src) sLen sc]).run P W = .ok (.int .i64 k) W') ∧ W'.heap[b]? = some (.cells (writeAt c o ws) ct fr) ∧
      (∀ k, k ≠ b → W'.heap[k]? = W.heap[k]?) ∧ W'.heap.size = W.heap.size ∧ Same W W' := by
  obtain ⟨W', s1, s2, s3, s4, s5⟩ := run_storeCells (P := P) (b := b) (o := o) (ty := ct) (fr := fr) ws 0 W c hb ones (by simpa using hle) (by simpa using hfz)
  refine ⟨W', fun ty dc sc => ?_, by simpa using s2, s3, s4, s5⟩
  have hl := run_loadCells_list (P := P) W src ws hcells
  rw [hws] at hl
  unfold Builtin.copy_
  simp only [Sem.run_bind, run_underlying hT, Result.andThen_ok, hsz, Builtin.lenOf, Sem.run_pure, hk, Builtin.firstCells, hl, s1]
  simp [run_underlying hT, hsz, Builtin.lenOf, hk, Builtin.firstCells, hl, s1, goInt]
end Go.AM
