/-
  tlv.zzs930003qabeq (function 8) at two slices of the same bytes: true.
-/
import Derived.Test.YmwhanQabBase
import Derived.Deep.QuietTactic
import Derived.BigQuiet
namespace Go.Proofs.Ymwhan.Qab
open Go.RowKit
set_option linter.unusedVariables false

theorem eq_empty (a b : Option Addr) (c c' : Nat) (w : World) :
    Calls Yanv.prog 8 #[.slice a 0 c, .slice b 0 c'] w fun e w' => e = .returned (.bool true) ∧ Below w.heap.size w w' := by
  go_enter Yanv.func8, Yanv.ntmps8
  go_wp2
  refine wp_loop_rounds 1 ?_
  rw [rounds_succ]
  go_wp2
  go_ret
  exact ⟨rfl, Below.refl _ _⟩

theorem eq_some (b off b' off' n c c' : Nat) (zs : List Int) (w : World) (hz : zs.length = n) (hn : n ≤ 1048576) (ha : Bytes w (some ⟨b, off, none⟩) zs) (hb : Bytes w (some ⟨b', off', none⟩) zs) :
    Calls Yanv.prog 8 #[.slice (some ⟨b, off, none⟩) n c, .slice (some ⟨b', off', none⟩) n c'] w fun e w' => e = .returned (.bool true) ∧ Below w.heap.size w w' := by
  have HZ : Hid (zs.length = n) := hz
  clear hz
  go_enter Yanv.func8, Yanv.ntmps8
  go_wp2
  go_loopw [5] (fun i wr => ∃ k : Nat, k ≤ n ∧ i = .int .i64 k ∧ Below w.heap.size w wr) (fun i _ => n - (intOf i).toNat)
  case atStart => exact ⟨0, Nat.zero_le _, rfl, Below.refl _ _⟩
  case round =>
    obtain ⟨k, hk, rfl, hbr⟩ := hrel
    by_cases hlt : k < n
    · have hk1 : (k : Int) < (n : Int) := by omega
      obtain ⟨v, hv1, hv2⟩ : ∃ v, wr.cell? ⟨b, off + k, none⟩ = some (.int .u8 v) ∧ wr.cell? ⟨b', off' + k, none⟩ = some (.int .u8 v) := by
        have hkz : k < zs.length := by rw [HZ.out]; exact hlt
        exact ⟨zs.getD k 0, (ha.later hbr).cellAt hkz, (hb.later hbr).cellAt hkz⟩
      go_wp2
      go_quiet (fail)
      go_wp2
      go_roundw
      case rel => exact ⟨k + 1, by omega, by go_num, below_drewN hbr _⟩
      case measure => simp [intOf]; omega
    · go_wp2
      go_ret
      exact ⟨rfl, hbr⟩

theorem eq_any (a b : Option Addr) (n c c' : Nat) (zs : List Int) (w : World) (hz : zs.length = n) (hn : n ≤ 1048576) (ha : Bytes w a zs) (hb : Bytes w b zs) :
    Calls Yanv.prog 8 #[.slice a n c, .slice b n c'] w fun e w' => e = .returned (.bool true) ∧ Below w.heap.size w w' := by
  rcases ha with rfl | ⟨b1, off1, rfl, hc1⟩
  · obtain rfl : n = 0 := by simpa using hz.symm
    exact eq_empty a b c c' w
  rcases hb with rfl | ⟨b2, off2, rfl, hc2⟩
  · obtain rfl : n = 0 := by simpa using hz.symm
    exact eq_empty _ b c c' w
  exact eq_some b1 off1 b2 off2 n c c' zs w hz hn (.inr ⟨b1, off1, rfl, hc1⟩) (.inr ⟨b2, off2, rfl, hc2⟩)

end Go.Proofs.Ymwhan.Qab
