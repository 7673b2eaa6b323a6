/-
  A row of bytes that is filled cell by cell.
-/
import Derived.Test.YmwhanQabBase
namespace Go.Proofs.Ymwhan.Qab
open Go.RowKit

/-- 'make([]byte, n)': n noughts. -/
theorem wpList_make_noughts (w : World) {ops : Array Oper} {rest : List Oper} {o : Oper} {a : Act} {Q : Exit → Act → World → Prop}
    (hg : o.guard = none) (l c : Operand) (hop : o.op = Op.makeSlice 22 l c) (L : Int) (n : Nat) (hl : a.eval l = .int .i64 L) (hc : a.eval c = .int .i64 L) (hL : L = (n : Int)) (hn : n ≤ 1048576)
    (hK : ∀ w', Block w' w.heap.size (List.replicate n 0) → Below w.heap.size w w' → wpList Yanv.prog ops Q rest (a.put o.dst (.slice (some ⟨w.heap.size, 0, none⟩) n n)) w') :
    wpList Yanv.prog ops Q (o :: rest) a w := by
  obtain ⟨i0, hi, hz0, hz1, hz2⟩ := info_parts Yanv.info5
  refine wpList_make_full w hg l c 22 hop w.heap.size 5 i0 (.int .u8 0) 1 Yanv.underlying22 hi hz0 hz1 .i64 .i64 L L n hl hc hL hL (by rw [hz2]; omega) (by unfold maxLen; omega) (Nat.le_refl _) ?_
  intro w1 hown hgrow
  obtain ⟨hg1, _⟩ := block_of_made hown
  refine hK w1 ?_ ((Below.refl _ _).grown hgrow (Nat.le_refl _) (by simp))
  have e : (madeCells (Value.int .u8 0).cells (n * 1)).toList = (List.replicate n (0 : Int)).map (Value.int .u8) := by
    rw [Nat.mul_one, List.map_replicate]
    exact toList_madeCells_one _ _
  rw [e] at hg1
  exact hg1

end Go.Proofs.Ymwhan.Qab
namespace Go.Proofs.Ymwhan
open Go.RowKit

theorem Block.cell {w : World} {g : Nat} {zs : List Int} (h : Block w g zs) {k : Nat} (hk : k < zs.length) : ∃ y, w.cell? ⟨g, k, none⟩ = some (.int .u8 y) := by
  have := (Block.bytes h).cellAt hk
  rw [Nat.zero_add] at this
  exact ⟨_, this⟩

theorem Block.free {w : World} {g : Nat} {zs : List Int} (h : Block w g zs) (k : Nat) : w.frozen? ⟨g, k, none⟩ = false := by
  unfold Block at h
  simp [World.frozen?, h]

/-- A byte is stored. -/
theorem Block.store {w : World} {g : Nat} {zs : List Int} (h : Block w g zs) (k : Nat) (x : Int) : Block (w.setCell ⟨g, k, none⟩ (.int .u8 x)) g (zs.set k x) := by
  unfold Block at h ⊢
  rw [heap_setCell_same w g k _ 5 _ h]
  congr 2
  apply Array.ext'
  simp [List.map_set]

end Go.Proofs.Ymwhan
