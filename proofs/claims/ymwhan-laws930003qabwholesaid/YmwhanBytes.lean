/-
  What both laws want of []byte: where a slice's bytes lie, and how that is carried on.
-/
import Derived.Test.YmwhanProg
import Derived.WalkKit
import Derived.WalkSpells
import Derived.WalkLawsBesides
import Derived.Laws.CopyOwn
import Derived.OpenShut
namespace Go.Proofs.Ymwhan
open Go.RowKit

/-- The element type's row of the table. -/
theorem Yanv.info5 : (Yanv.prog.info? 5).map (fun i => (i.zero, i.size, i.bytes)) = some (some (.int .u8 0), 1, 1) := by kernel_rfl
theorem Yanv.size5 : (Yanv.prog.info? 5).map (·.size) = some 1 := by kernel_rfl

/-- The bytes of a slice: none, or they lie from a plain address on. -/
def Bytes (w : World) (a : Option Addr) (zs : List Int) : Prop :=
  zs = [] ∨ ∃ b off, a = some ⟨b, off, none⟩ ∧ ∀ j, j < zs.length → w.cell? ⟨b, off + j, none⟩ = some (.int .u8 (zs.getD j 0))

theorem Bytes.nil (w : World) (a : Option Addr) : Bytes w a [] := .inl rfl

/-- What lay there lies there in every later world. -/
theorem Bytes.later {w w' : World} {a : Option Addr} {zs : List Int} (h : Bytes w a zs) (hb : Below w.heap.size w w') : Bytes w' a zs := by
  rcases h with h | ⟨b, off, ha, hc⟩
  · exact .inl h
  · exact .inr ⟨b, off, ha, fun j hj => cell_later hb (hc j hj)⟩

theorem Bytes.cellAt {w : World} {b off : Nat} {zs : List Int} (h : Bytes w (some ⟨b, off, none⟩) zs) {j : Nat} (hj : j < zs.length) : w.cell? ⟨b, off + j, none⟩ = some (.int .u8 (zs.getD j 0)) := by
  rcases h with rfl | ⟨b', off', ha, hc⟩
  · simp at hj
  · cases ha
    exact hc j hj

theorem getD_range {zs : List Int} (h : ∀ n ∈ zs, (Lit.int .u8 n).wf = true) (j : Nat) : 0 ≤ zs.getD j 0 ∧ zs.getD j 0 ≤ 255 := by
  have := range_u8 h j
  simpa using this

/-- A slice that came in. -/
theorem Bytes.came {w : World} {x : Addr} {len cap : Nat} {zs : List Int} (hl : len ≤ cap) (hz : zs.length = cap) (hc : ∀ i, i < zs.length → w.cell? (x.add i) = some (.int .u8 (zs.getD i 0))) :
    Bytes w (some x) (zs.take len) := by
  by_cases h0 : len = 0
  · left; simp [h0]
  · right
    obtain ⟨b, off, spot⟩ := x
    have h1 := hc 0 (by omega)
    have hs : spot = none := by simpa [Addr.add] using World.cell?_spot h1
    subst hs
    refine ⟨b, off, rfl, fun j hj => ?_⟩
    rw [List.length_take] at hj
    have h2 := hc j (by omega)
    rw [Addr.add_lit] at h2
    rw [h2]
    simp [show j < len by omega]

/-- A block that is known whole. -/
theorem Bytes.block {w : World} {g : Nat} {t : TypeId} {zs : List Int} (h : w.heap[g]? = some (.cells (zs.map (Value.int .u8)).toArray t (0, 0))) : Bytes w (some ⟨g, 0, none⟩) zs := by
  refine .inr ⟨g, 0, rfl, fun j hj => ?_⟩
  rw [Nat.zero_add, cell_of_row w g j _ t (0, 0) h]
  simp [List.getElem?_eq_getElem hj]

/-- What 'make' has made, as a block. -/
theorem block_of_made {w : World} {g n : Nat} {xs : List Value} (h : w.ownsRow g 5 1 (.slice (some ⟨g, 0, none⟩) n n) n xs) : w.heap[g]? = some (.cells xs.toArray 5 (0, 0)) ∧ xs.length = n := by
  obtain ⟨h1, h2⟩ := h
  rcases h2 with ⟨h0, _⟩ | ⟨g', cap, cur, hv, _, hg, _, _, hs, ht⟩
  · cases h0
  · cases hv
    refine ⟨?_, by omega⟩
    rw [← ht, List.take_of_length_le (by simp; omega)]
    simpa using hg

/-- A copy over the whole row. -/
theorem splice_whole {α : Type} (cur cs : List α) (h : cs.length = cur.length) : splice cur 0 cs = cs := by
  simp [splice, h]

/-- The cells that a copy or an append reads. -/
theorem Bytes.cells {w : World} {a : Option Addr} {zs : List Int} (h : Bytes w a zs) (hp : 0 < zs.length) : ∃ ad, a = some ad ∧ ∀ j v, (zs.map (Value.int .u8))[j]? = some v → w.cell? (ad.add j) = some v := by
  rcases h with rfl | ⟨b, off, ha, hc⟩
  · simp at hp
  · refine ⟨_, ha, fun j v hv => ?_⟩
    have hj : j < zs.length := by simpa using (List.getElem?_eq_some_iff.1 hv).1
    rw [Addr.add_lit, hc j hj]
    simpa [List.getElem?_eq_getElem hj] using hv

/-- Block g is a row of n bytes' room. -/
def Room (w : World) (g n : Nat) : Prop := ∃ cur : List Value, cur.length = n ∧ w.heap[g]? = some (.cells cur.toArray 5 (0, 0))
/-- Block g is the row of the bytes zs, no more. -/
def Block (w : World) (g : Nat) (zs : List Int) : Prop := w.heap[g]? = some (.cells (zs.map (Value.int .u8)).toArray 5 (0, 0))

theorem Block.bytes {w : World} {g : Nat} {zs : List Int} (h : Block w g zs) : Bytes w (some ⟨g, 0, none⟩) zs := Bytes.block h
theorem Block.lt {w : World} {g : Nat} {zs : List Int} (h : Block w g zs) : g < w.heap.size := (Array.getElem?_eq_some_iff.1 h).1
theorem Block.below {w w' : World} {B g : Nat} {zs : List Int} (h : Block w g zs) (hb : Below B w w') (hg : g < B) : Block w' g zs := (hb.block g hg).trans h

/-- 'make([]byte, n)' -/
theorem wpList_make_bytes (w : World) {ops : Array Oper} {rest : List Oper} {o : Oper} {a : Act} {Q : Exit → Act → World → Prop}
    (hg : o.guard = none) (l c : Operand) (hop : o.op = Op.makeSlice 22 l c) (L : Int) (n : Nat) (hl : a.eval l = .int .i64 L) (hc : a.eval c = .int .i64 L) (hL : L = (n : Int)) (hn : n ≤ 1048576)
    (hK : ∀ w', Room w' w.heap.size n → Below w.heap.size w w' → wpList Yanv.prog ops Q rest (a.put o.dst (.slice (some ⟨w.heap.size, 0, none⟩) n n)) w') :
    wpList Yanv.prog ops Q (o :: rest) a w := by
  obtain ⟨i0, hi, hz0, hz1, hz2⟩ := info_parts Yanv.info5
  refine wpList_make_full w hg l c 22 hop w.heap.size 5 i0 (.int .u8 0) 1 Yanv.underlying22 hi hz0 hz1 .i64 .i64 L L n hl hc hL hL (by rw [hz2]; omega) (by unfold maxLen; omega) (Nat.le_refl _) ?_
  intro w1 hown hgrow
  obtain ⟨hg1, hl1⟩ := block_of_made hown
  exact hK w1 ⟨_, hl1, hg1⟩ ((Below.refl _ _).grown hgrow (Nat.le_refl _) (by simp))

/-- 'copy(d, s)', d a row of the call's own, s of the same length. -/
theorem wpList_copy_bytes (w : World) {ops : Array Oper} {rest : List Oper} {o : Oper} {a : Act} {Q : Exit → Act → World → Prop}
    (hg : o.guard = none) (d s : Operand) (ho : o.op = .call { callee := .builtin .copy, args := #[d, s], argTypes := #[22, 22] }) (g n c : Nat) (sp : Option Addr)
    (hd : a.eval d = .slice (some ⟨g, 0, none⟩) n n) (hs : a.eval s = .slice sp n c) (zs : List Int) (hz : zs.length = n) (hroom : Room w g n) (hsrc : Bytes w sp zs)
    (hK : ∀ w', Block w' g zs → Below g w w' → wpList Yanv.prog ops Q rest (a.put o.dst (.int .i64 n)) w') :
    wpList Yanv.prog ops Q (o :: rest) a w := by
  obtain ⟨cur, hcur, hblk⟩ := hroom
  have hcl : (zs.map (Value.int .u8)).length = n := by rw [List.length_map, hz]
  refine wpList_copy_splice hg d s 22 22 ho 5 Yanv.underlying22 Yanv.size5 _ _ n n n c hd hs g 0 cur 5 hblk (zs.map (Value.int .u8)) (by rw [hcl]; exact (Nat.min_self n).symm)
    (fun hp => ⟨rfl, hsrc.cells (by rw [List.length_map] at hp; exact hp)⟩) (by rw [hcl, hcur]; omega) (ints_oneCell _ _) g w (Below.refl _ _) (Nat.le_refl _) ?_
  intro w2 HG hb
  rw [splice_whole _ _ (by rw [hcl, hcur])] at HG
  rw [hcl]
  exact hK w2 HG.out hb

end Go.Proofs.Ymwhan
