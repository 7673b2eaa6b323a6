/-
  tlv.AppendLength (function 9) onto a row of the call's own: the shortest length field.
-/
import Derived.Test.YmwhanQabBase
namespace Go.Proofs.Ymwhan.Qab
open Go.RowKit
set_option linter.unusedVariables false

/-- The length field. -/
def lenf (L : Nat) : List Int := if L < 128 then [(L : Int)] else if L < 256 then [129, (L : Int)] else [130, (L : Int) / 256, (L : Int) % 256]

set_option maxRecDepth 20000 in
set_option maxHeartbeats 400000 in
theorem alen_one (base g n cap : Nat) (zs : List Int) (L : Nat) (w : World) (hL : L < 128) (hn : n ≤ 1000000) (hown : Own w base g n cap zs) (hbase : base ≤ w.heap.size) :
    Calls Yanv.prog 9 #[.slice (some ⟨g, 0, none⟩) n cap, .int .i64 L] w fun e w' => ∃ g' cap', e = .returned (.tuple #[.slice (some ⟨g', 0, none⟩) (n + 1) cap', .bool true]) ∧ Own w' base g' (n + 1) cap' (zs ++ [(L : Int)]) ∧ Below base w w' := by
  go_enter Yanv.func9, Yanv.ntmps9
  go_wp2_with (at_builtin; refine wpList_append_bytes _ rfl (.tmp 15) (.tmp 18) rfl base g n cap zs rfl (hown.alloc _) (some ⟨w.heap.size, 0, none⟩) 1 1 [(L : Int)] rfl (by simp) rfl (bytes_new1 w _) (by omega) (by simp; omega) ?_)
  intro g' cap' w1 hown1 hb1
  go_wp2
  go_ret2
  exact ⟨g', cap', rfl, hown1, ((Below.refl _ _).alloc hbase _).trans hb1⟩

set_option maxRecDepth 20000 in
set_option maxHeartbeats 400000 in
theorem alen_two (base g n cap : Nat) (zs : List Int) (L : Nat) (w : World) (h0 : 128 ≤ L) (hL : L < 256) (hn : n ≤ 1000000) (hown : Own w base g n cap zs) (hbase : base ≤ w.heap.size) :
    Calls Yanv.prog 9 #[.slice (some ⟨g, 0, none⟩) n cap, .int .i64 L] w fun e w' => ∃ g' cap', e = .returned (.tuple #[.slice (some ⟨g', 0, none⟩) (n + 2) cap', .bool true]) ∧ Own w' base g' (n + 2) cap' (zs ++ [129, (L : Int)]) ∧ Below base w w' := by
  go_enter Yanv.func9, Yanv.ntmps9
  go_wp2_with (at_builtin; refine wpList_append_bytes _ rfl (.tmp 22) (.tmp 25) rfl base g n cap zs rfl (hown.alloc _) (some ⟨w.heap.size, 0, none⟩) 2 2 [129, (L : Int)] rfl (by simp) rfl (bytes_new2 w _ _) (by omega) (by simp; omega) ?_)
  intro g' cap' w1 hown1 hb1
  go_wp2
  go_ret2
  exact ⟨g', cap', rfl, hown1, ((Below.refl _ _).alloc hbase _).trans hb1⟩

set_option maxRecDepth 20000 in
set_option maxHeartbeats 400000 in
theorem alen_three (base g n cap : Nat) (zs : List Int) (L : Nat) (w : World) (h0 : 256 ≤ L) (hL : L ≤ 65535) (hn : n ≤ 1000000) (hown : Own w base g n cap zs) (hbase : base ≤ w.heap.size) :
    Calls Yanv.prog 9 #[.slice (some ⟨g, 0, none⟩) n cap, .int .i64 L] w fun e w' => ∃ g' cap', e = .returned (.tuple #[.slice (some ⟨g', 0, none⟩) (n + 3) cap', .bool true]) ∧ Own w' base g' (n + 3) cap' (zs ++ [130, (L : Int) / 256, (L : Int) % 256]) ∧ Below base w w' := by
  go_enter Yanv.func9, Yanv.ntmps9
  go_wp2_with (at_builtin; refine wpList_append_bytes _ rfl (.tmp 27) (.tmp 33) rfl base g n cap zs rfl (hown.alloc _) (some ⟨w.heap.size, 0, none⟩) 3 3 [130, (L : Int) / 256, (L : Int) % 256] rfl (by simp) rfl (bytes_new3 w _ _ _) (by omega) (by simp; omega) ?_)
  intro g' cap' w1 hown1 hb1
  go_wp2
  go_ret2
  exact ⟨g', cap', rfl, hown1, ((Below.refl _ _).alloc hbase _).trans hb1⟩

theorem lenf_le (L : Nat) : (lenf L).length ≤ 3 ∧ 0 < (lenf L).length := by
  unfold lenf
  by_cases h1 : L < 128
  · rw [if_pos h1]; simp
  rw [if_neg h1]
  by_cases h2 : L < 256
  · rw [if_pos h2]; simp
  · rw [if_neg h2]; simp

theorem alen_any (base g n cap : Nat) (zs : List Int) (L : Nat) (w : World) (hL : L ≤ 65535) (hn : n ≤ 1000000) (hown : Own w base g n cap zs) (hbase : base ≤ w.heap.size) :
    Calls Yanv.prog 9 #[.slice (some ⟨g, 0, none⟩) n cap, .int .i64 L] w fun e w' => ∃ g' cap', e = .returned (.tuple #[.slice (some ⟨g', 0, none⟩) (n + (lenf L).length) cap', .bool true]) ∧ Own w' base g' (n + (lenf L).length) cap' (zs ++ lenf L) ∧ Below base w w' := by
  unfold lenf
  by_cases h1 : L < 128
  · rw [if_pos h1]
    exact alen_one base g n cap zs L w h1 hn hown hbase
  rw [if_neg h1]
  by_cases h2 : L < 256
  · rw [if_pos h2]
    exact alen_two base g n cap zs L w (by omega) h2 hn hown hbase
  · rw [if_neg h2]
    exact alen_three base g n cap zs L w (by omega) hL hn hown hbase

end Go.Proofs.Ymwhan.Qab
