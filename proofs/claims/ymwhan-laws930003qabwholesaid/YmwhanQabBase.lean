/-
  What the second law wants: rows of bytes that the call itself makes and appends to.
-/
import Derived.Test.YmwhanBytes
import Derived.Laws.AppendOwnNone
import Derived.ArgAppend
namespace Go.Proofs.Ymwhan.Qab
open Go.RowKit

/-- The slice at the head of block g, n elements, room for cap, owns the bytes zs; g is from base on. -/
def Own (w : World) (base g n cap : Nat) (zs : List Int) : Prop :=
  zs.length = n ∧ w.ownsRow base 5 1 (.slice (some ⟨g, 0, none⟩) n cap) n (zs.map (Value.int .u8))

theorem Own.kept {w w' : World} {base g n cap : Nat} {zs : List Int} (h : Own w base g n cap zs) (hb : Below w.heap.size w w') : Own w' base g n cap zs := by
  refine ⟨h.1, h.2.1, ?_⟩
  rcases h.2.2 with ⟨h0, _⟩ | ⟨g', cap', cur, hv, hg, hh, r⟩
  · cases h0
  · exact .inr ⟨g', cap', cur, hv, hg, (hb.block g' (Array.getElem?_eq_some_iff.1 hh).1).trans hh, r⟩

theorem Own.alloc {w : World} {base g n cap : Nat} {zs : List Int} (h : Own w base g n cap zs) (o : Obj) : Own (w.alloc o) base g n cap zs := ⟨h.1, h.2.alloc o⟩

theorem Own.bytes {w : World} {base g n cap : Nat} {zs : List Int} (h : Own w base g n cap zs) : Bytes w (some ⟨g, 0, none⟩) zs := by
  have hc := h.2.cells (g := g) rfl
  refine .inr ⟨g, 0, rfl, fun j hj => ?_⟩
  have := hc j (.int .u8 (zs.getD j 0)) (by simp [List.getElem?_eq_getElem hj])
  rwa [Addr.add_lit] at this

theorem Own.lower {w : World} {base base' g n cap : Nat} {zs : List Int} (h : Own w base g n cap zs) (hb : base' ≤ base) : Own w base' g n cap zs := by
  refine ⟨h.1, h.2.1, ?_⟩
  rcases h.2.2 with ⟨h0, _⟩ | ⟨g', cap', cur, hv, hg, r⟩
  · cases h0
  · exact .inr ⟨g', cap', cur, hv, Nat.le_trans hb hg, r⟩

/-- What an append or a make leaves, not nil, as 'Own'. -/
theorem own_of_row {w : World} {base n : Nat} {v : Value} {zs : List Int} (h : w.ownsRow base 5 1 v n (zs.map (Value.int .u8))) (hv : v ≠ .slice none 0 0) :
    ∃ g cap, v = .slice (some ⟨g, 0, none⟩) n cap ∧ Own w base g n cap zs := by
  rcases h.2 with ⟨h0, _⟩ | ⟨g, cap, cur, hx, r⟩
  · exact absurd h0 hv
  · subst hx
    exact ⟨g, cap, rfl, by simpa using h.1, h⟩

/-- The cells of a source that has an address. -/
theorem Bytes.src {w : World} {ad : Addr} {zs : List Int} (h : Bytes w (some ad) zs) : ∀ j v, (zs.map (Value.int .u8))[j]? = some v → w.cell? (ad.add j) = some v := by
  intro j v hv
  have hj : j < zs.length := by simpa using (List.getElem?_eq_some_iff.1 hv).1
  obtain ⟨ad', ha, hc⟩ := h.cells (by omega)
  cases ha
  exact hc j v hv

/-- Bytes laid in a new block. -/
theorem bytes_new (w : World) (l : List Int) : Bytes (w.alloc (.cells (l.map (Value.int .u8)).toArray 5)) (some ⟨w.heap.size, 0, none⟩) l := Bytes.block (t := 5) (heap_alloc_new w _)
theorem bytes_new1 (w : World) (x : Int) : Bytes (w.alloc (.cells #[.int .u8 x] 5)) (some ⟨w.heap.size, 0, none⟩) [x] := bytes_new w [x]
theorem bytes_new2 (w : World) (x y : Int) : Bytes (w.alloc (.cells #[.int .u8 x, .int .u8 y] 5)) (some ⟨w.heap.size, 0, none⟩) [x, y] := bytes_new w [x, y]
theorem bytes_new3 (w : World) (x y z : Int) : Bytes (w.alloc (.cells #[.int .u8 x, .int .u8 y, .int .u8 z] 5)) (some ⟨w.heap.size, 0, none⟩) [x, y, z] := bytes_new w [x, y, z]

/-- 'out = append(out, src...)', out a row of the call's own (not nil), src whatever. -/
theorem wpList_append_bytes (w : World) {ops : Array Oper} {rest : List Oper} {o : Oper} {a : Act} {Q : Exit → Act → World → Prop}
    (hgd : o.guard = none) (s x : Operand) (ho : o.op = .call { callee := .builtin .append, args := #[s, x], argTypes := #[22, 22] })
    (base g n cap : Nat) (zs : List Int) (hs : a.eval s = .slice (some ⟨g, 0, none⟩) n cap) (hown : Own w base g n cap zs)
    (ao : Option Addr) (m c : Nat) (ys : List Int) (hx : a.eval x = .slice ao m c) (hnone : ao = none → m = 0 ∧ c = 0) (hy : ys.length = m) (hsrc : Bytes w ao ys) (hn : n + m ≤ 1048576) (hbase : base ≤ w.heap.size)
    (h : ∀ g' cap' w', Own w' base g' (n + m) cap' (zs ++ ys) → Below base w w' → wpList Yanv.prog ops Q rest (a.put o.dst (.slice (some ⟨g', 0, none⟩) (n + m) cap')) w') :
    wpList Yanv.prog ops Q (o :: rest) a w := by
  obtain ⟨i0, hi, hz0, hz1, hz2⟩ := info_parts Yanv.info5
  have hbg : base ≤ g := (hown.2.lt g rfl).1
  cases ao with
  | none =>
    obtain ⟨rfl, rfl⟩ := hnone rfl
    obtain rfl : ys = [] := List.eq_nil_of_length_eq_zero hy
    refine wpList_append_own_none hgd s x 22 ho base 5 i0 1 Yanv.underlying22 hi _ n _ hs hown.2 hx ?_
    have := h g cap w (by simpa using hown) (Below.refl _ _)
    simpa using this
  | some ad =>
    refine wpList_append_own w hgd s x 22 ho base 5 i0 (.int .u8 0) 1 1 Yanv.underlying22 hi hz0 hz1 hz2 rfl (by decide) _ n _ hs hown.2 ad m c (ys.map (Value.int .u8)) hx (by simpa using hy) (Bytes.src hsrc) (ints_oneCell _ _)
      (by unfold maxLen; omega) (by omega) hbase ?_
    intro v' w' hown' hgrow hnil
    rw [← List.map_append] at hown'
    obtain ⟨g', cap', rfl, hown''⟩ := own_of_row hown' (fun e => by have := (hnil.1 e).1; cases this)
    exact h g' cap' w' hown'' ((Below.refl _ _).grown hgrow hbase (fun k hk => by simp [Value.ownBlock] at hk; omega))

/-- 'out := append(dst, src...)', dst full (its capacity is its length) or nil, src not empty: a new row. -/
theorem wpList_append_full (w : World) {ops : Array Oper} {rest : List Oper} {o : Oper} {a : Act} {Q : Exit → Act → World → Prop}
    (hgd : o.guard = none) (s x : Operand) (ho : o.op = .call { callee := .builtin .append, args := #[s, x], argTypes := #[22, 22] })
    (so : Option Addr) (n : Nat) (zs : List Int) (hs : a.eval s = .slice so n n) (hso : so = none → n = 0) (hz : zs.length = n) (hold : Bytes w so zs)
    (ad : Addr) (m c : Nat) (ys : List Int) (hx : a.eval x = .slice (some ad) m c) (hm : 0 < m) (hy : ys.length = m) (hsrc : Bytes w (some ad) ys) (hn : n + m ≤ 1048576)
    (h : ∀ g' cap' w', Own w' w.heap.size g' (n + m) cap' (zs ++ ys) → Below w.heap.size w w' → wpList Yanv.prog ops Q rest (a.put o.dst (.slice (some ⟨g', 0, none⟩) (n + m) cap')) w') :
    wpList Yanv.prog ops Q (o :: rest) a w := by
  obtain ⟨i0, hi, hz0, hz1, hz2⟩ := info_parts Yanv.info5
  refine wpList_append_grows w hgd s x 22 ho 5 i0 (.int .u8 0) 1 1 Yanv.underlying22 hi hz0 hz1 hz2 rfl (by decide) so n n (zs.map (Value.int .u8)) hs (fun e => ⟨hso e, hso e⟩) (by simpa using hz)
    (fun b hb => Bytes.src (hb ▸ hold)) ad m c (ys.map (Value.int .u8)) hx (by simpa using hy) (Bytes.src hsrc) (ints_oneCell _ _) (by omega) (by unfold maxLen; omega) (by omega) ?_
  intro v' w' hown' hgrow
  rw [← List.map_append] at hown'
  obtain ⟨g', cap', rfl, hown''⟩ := own_of_row hown' (fun e => by
    subst e
    rcases hown'.2 with ⟨_, h0⟩ | ⟨g, cap, cur, hx, _⟩
    · omega
    · cases hx)
  exact h g' cap' w' hown'' ((Below.refl _ _).grown hgrow (Nat.le_refl _) (by simp))

/-- 'make([]byte, 0, n)' -/
theorem wpList_make_room (w : World) {ops : Array Oper} {rest : List Oper} {o : Oper} {a : Act} {Q : Exit → Act → World → Prop}
    (hg : o.guard = none) (l c : Operand) (hop : o.op = Op.makeSlice 22 l c) (C : Int) (n : Nat) (hl : a.eval l = .int .i64 0) (hc : a.eval c = .int .i64 C) (hC : C = (n : Int)) (hn : n ≤ 1048576)
    (hK : ∀ w', Own w' w.heap.size w.heap.size 0 n [] → Below w.heap.size w w' → wpList Yanv.prog ops Q rest (a.put o.dst (.slice (some ⟨w.heap.size, 0, none⟩) 0 n)) w') :
    wpList Yanv.prog ops Q (o :: rest) a w := by
  obtain ⟨i0, hi, hz0, hz1, hz2⟩ := info_parts Yanv.info5
  refine wpList_make_own w hg l c 22 hop w.heap.size 5 i0 (.int .u8 0) 1 Yanv.underlying22 hi hz0 hz1 .i64 .i64 C n hl hc hC (by rw [hz2]; omega) (by unfold maxLen; omega) (Nat.le_refl _) ?_
  intro w1 hown hgrow
  exact hK w1 ⟨rfl, hown⟩ ((Below.refl _ _).grown hgrow (Nat.le_refl _) (by simp))

end Go.Proofs.Ymwhan.Qab
