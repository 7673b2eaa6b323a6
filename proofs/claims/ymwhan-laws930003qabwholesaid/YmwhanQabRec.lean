/-
  tlv.AppendRecord (function 7): onto a slice that is full or nil.
-/
import Derived.Test.YmwhanQabLen
namespace Go.Proofs.Ymwhan.Qab
open Go.RowKit
set_option linter.unusedVariables false

set_option maxRecDepth 20000 in
set_option maxHeartbeats 400000 in
/-- The value is too long: dst comes back, and false. -/
theorem rec_long (so : Option Addr) (n c : Nat) (t : Int) (av : Option Addr) (lv cv : Nat) (w : World) (hl : 65535 < lv) (hl2 : lv ≤ 1048576) :
    Calls Yanv.prog 7 #[.slice so n c, .agg #[.int .u8 t, .slice av lv cv]] w fun e w' => e = .returned (.tuple #[.slice so n c, .bool false]) ∧ Below w.heap.size w w' := by
  have hi : (65535 : Int) < (lv : Int) := by omega
  go_enter Yanv.func7, Yanv.ntmps7
  go_wp2
  go_ret2
  exact ⟨rfl, (Below.refl _ _).alloc (Nat.le_refl _) _⟩

/-- The world in which the record lies in a box of its own and the type byte in another. -/
theorem boxed (w : World) (t : Int) (v : Value) : ∃ wA, wA = (w.alloc (.cells #[.int .u8 t, v] 30)).alloc (.cells #[.int .u8 t] 5) ∧ Below w.heap.size w wA ∧ wA.heap.size = w.heap.size + 2 ∧
    wA.cell? ⟨w.heap.size, 1, none⟩ = some v ∧ Bytes wA (some ⟨w.heap.size + 1, 0, none⟩) [t] := by
  refine ⟨_, rfl, ((Below.refl _ _).alloc (Nat.le_refl _) _).alloc (by simp) _, by simp, ?_, ?_⟩
  · exact cell_later (w := w.alloc (.cells #[.int .u8 t, v] 30)) ((Below.refl _ _).alloc (Nat.le_refl _) _) (by simp)
  · have := bytes_new1 (w.alloc (.cells #[.int .u8 t, v] 30)) t
    simpa using this

set_option maxRecDepth 20000 in
set_option maxHeartbeats 400000 in
theorem rec_ok (so : Option Addr) (n : Nat) (xs : List Int) (t : Int) (av : Option Addr) (lv cv : Nat) (ys : List Int) (w : World) (hso : so = none → n = 0) (hn : n ≤ 1024) (hx : xs.length = n) (hold : Bytes w so xs)
    (hav : av = none → lv = 0 ∧ cv = 0) (hl : lv ≤ 65535) (hy : ys.length = lv) (hval : Bytes w av ys) :
    Calls Yanv.prog 7 #[.slice so n n, .agg #[.int .u8 t, .slice av lv cv]] w fun e w' => ∃ g cap, e = .returned (.tuple #[.slice (some ⟨g, 0, none⟩) (n + 1 + (lenf lv).length + lv) cap, .bool true]) ∧
      Own w' w.heap.size g (n + 1 + (lenf lv).length + lv) cap (((xs ++ [t]) ++ lenf lv) ++ ys) ∧ Below w.heap.size w w' := by
  obtain ⟨wA, hwA, hbA, hsA, hcA, hrA⟩ := boxed w t (.slice av lv cv)
  have HwA : Hid (wA = (w.alloc (.cells #[.int .u8 t, .slice av lv cv] 30)).alloc (.cells #[.int .u8 t] 5)) := hwA
  have HsA : Hid (wA.heap.size = w.heap.size + 2) := hsA
  have HcA : Hid (wA.cell? ⟨w.heap.size, 1, none⟩ = some (.slice av lv cv)) := hcA
  have Hso : Hid (so = none → n = 0) := hso
  have Hav : Hid (av = none → lv = 0 ∧ cv = 0) := hav
  have Hx : Hid (xs.length = n) := hx
  have Hy : Hid (ys.length = lv) := hy
  have hoA := hold.later hbA
  clear hwA hsA hcA hso hav hx hy hold
  have hlf := lenf_le lv
  obtain ⟨f, Hf⟩ : ∃ f, Hid (f = (lenf lv).length) := ⟨_, rfl⟩
  rw [← Hf.out] at hlf ⊢
  go_enter Yanv.func7, Yanv.ntmps7
  go_wp2_with (at_builtin; rw [← HwA.out]; go_must (refine wpList_append_full wA rfl (.tmp 12) (.tmp 15) rfl so n xs rfl Hso.out Hx.out hoA ⟨w.heap.size + 1, 0, none⟩ 1 1 [t] rfl (by omega) rfl hrA (by omega) ?_))
  intro g1 cap1 w1 hown1 hb1
  have hc1 : w1.cell? ⟨w.heap.size, 1, none⟩ = some (.slice av lv cv) := cell_later hb1 HcA.out
  rw [HsA.out] at hown1 hb1
  have hs1 : w.heap.size + 2 ≤ w1.heap.size := by have := hb1.size; rw [HsA.out] at this; exact this
  go_wp2_with fail
  refine (alen_any (w.heap.size + 2) g1 (n + 1) cap1 (xs ++ [t]) lv _ hl (by omega) hown1 hs1).mono ?_
  rw [← Hf.out]
  rintro e w2 ⟨g2, cap2, rfl, hown2, hb2⟩
  have hc2 : w2.cell? ⟨w.heap.size, 1, none⟩ = some (.slice av lv cv) := by rw [hb2.cell (by show w.heap.size < _; omega)]; exact hc1
  have hs2 : w.heap.size + 2 ≤ w2.heap.size := by have := hb2.size; omega
  have hbW : Below w.heap.size w w2 := (hbA.trans (hb1.mono (by omega))).trans (hb2.mono (by omega))
  have hv2 := hval.later hbW
  clear hb1 hb2 hown1 hc1 hbA hrA hoA hval
  go_wp2_with (at_builtin; go_must (refine wpList_append_bytes w2 rfl (.tmp 25) (.tmp 27) rfl (w.heap.size + 2) g2 (n + 1 + f) cap2 (xs ++ [t] ++ lenf lv) rfl hown2 av lv cv ys rfl Hav.out Hy.out hv2 (by omega) hs2 ?_))
  intro g3 cap3 w3 hown3 hb3
  have hf3 := hown3.lower (base' := w.heap.size) (by omega)
  have hbF : Below w.heap.size w w3 := hbW.trans (hb3.mono (by omega))
  clear hown3 hb3 hbW hv2
  go_wp2
  go_ret2
  exact ⟨g3, cap3, rfl, by simpa using hf3, hbF⟩

end Go.Proofs.Ymwhan.Qab
