/-
  tlv.LawS930003QAAWhole (function 3): the walk.
-/
import Derived.Test.YmwhanQaaModel
namespace Go.Proofs.Ymwhan.Qaa
open Go.RowKit
set_option linter.unusedVariables false

/-- More than 4096 bytes: true at once. -/
theorem law_long (a : Option Addr) (n c : Nat) (pos : Int) (w : World) (h : 4096 < n) :
    Calls Yanv.prog 3 #[.slice a n c, .int .i64 pos] w fun e w' => e = .returned (.bool true) ∧ Below w.heap.size w w' := by
  have hi : (4096 : Int) < (n : Int) := by omega
  go_enter Yanv.func3, Yanv.ntmps3
  go_wp2
  go_ret
  exact ⟨rfl, Below.refl _ _⟩

theorem read_below (a : Option Addr) (n c : Nat) (zs : List Int) (pos : Int) (w : World) (r0 r1 r2 : Int) (hB : Bytes w a zs) (hz : zs.length = n) (hn : n ≤ 4096) (hw : ∀ j, 0 ≤ zs.getD j 0 ∧ zs.getD j 0 ≤ 255) (hr : Hid (rl zs pos = (r0, r1, r2))) :
    Calls Yanv.prog 5 #[.slice a n c, .int .i64 pos] w fun e w' => e = .returned (.tuple #[.int .i64 r0, .int .i64 r1, .int .i64 r2]) ∧ Below w.heap.size w w' :=
  (read_any a n c zs pos w r0 r1 r2 hB hz hn hw hr.out).mono fun e w' ⟨he, m, hm⟩ => ⟨he, by rw [hm]; exact below_drewN (Below.refl _ _) m⟩
theorem model_below (a : Option Addr) (n c : Nat) (zs : List Int) (pos : Int) (w : World) (r0 r1 r2 : Int) (hB : Bytes w a zs) (hz : zs.length = n) (hn : n ≤ 4096) (hw : ∀ j, 0 ≤ zs.getD j 0 ∧ zs.getD j 0 ≤ 255) (hr : Hid (rl zs pos = (r0, r1, r2))) :
    Calls Yanv.prog 6 #[.slice a n c, .int .i64 pos] w fun e w' => e = .returned (.tuple #[.int .i64 r0, .int .i64 r1, .int .i64 r2]) ∧ Below w.heap.size w w' :=
  (model_any a n c zs pos w r0 r1 r2 hB hz hn hw hr.out).mono fun e w' ⟨he, m, hm⟩ => ⟨he, by rw [hm]; exact below_drewN (Below.refl _ _) m⟩

/-- The nil slice. -/
theorem law_nil (pos : Int) (w : World) :
    Calls Yanv.prog 3 #[.slice none 0 0, .int .i64 pos] w fun e w' => e = .returned (.bool true) ∧ Below w.heap.size w w' := by
  obtain ⟨r0, r1, r2, hr⟩ : ∃ r0 r1 r2, rl [] pos = (r0, r1, r2) := ⟨_, _, _, rfl⟩
  have HR : Hid (rl [] pos = (r0, r1, r2)) := hr
  clear hr
  have hne := fun (W : World) => run_neq_slice_nil_any (P := Yanv.prog) W 22 5 none 0 0 0 0 Yanv.underlying22
  go_enter Yanv.func3, Yanv.ntmps3
  go_wp2_with fail
  refine (read_below none 0 0 [] pos _ r0 r1 r2 (Bytes.nil _ _) rfl (by omega) (by simp) HR).mono ?_
  rintro e w1 ⟨rfl, hb1⟩
  go_wp2_with fail
  refine (model_below none 0 0 [] pos _ r0 r1 r2 (Bytes.nil _ _) rfl (by omega) (by simp) HR).mono ?_
  rintro e w2 ⟨rfl, hb2⟩
  go_wp2_with fail
  refine wp_loop_rounds 1 ?_
  rw [rounds_succ]
  go_wp2
  go_ret
  exact ⟨rfl, hb1.trans (hb2.mono hb1.size)⟩

/-- An empty slice that is not nil. -/
theorem law_empty (x : Addr) (c : Nat) (pos : Int) (w : World) :
    Calls Yanv.prog 3 #[.slice (some x) 0 c, .int .i64 pos] w fun e w' => e = .returned (.bool true) ∧ Below w.heap.size w w' := by
  obtain ⟨r0, r1, r2, hr⟩ : ∃ r0 r1 r2, rl [] pos = (r0, r1, r2) := ⟨_, _, _, rfl⟩
  have HR : Hid (rl [] pos = (r0, r1, r2)) := hr
  clear hr
  have hne := fun (W : World) => run_neq_slice_nil_any (P := Yanv.prog) W 22 5 (some x) 0 c 0 0 Yanv.underlying22
  go_enter Yanv.func3, Yanv.ntmps3
  go_wp2_with (at_make; refine wpList_make_bytes _ rfl (.tmp 19) (.tmp 19) rfl _ 0 rfl rfl rfl (by omega) ?_)
  intro w1 hroom hb1
  go_wp2_with (refine wpList_copy_bytes _ rfl (.tmp 21) (.tmp 22) rfl w.heap.size 0 c _ rfl rfl [] rfl hroom (Bytes.nil _ _) ?_)
  intro w2 hblk hb2
  have hb := hb1.trans hb2
  clear hb1 hb2 hroom
  go_wp2_with fail
  refine (read_below _ 0 c [] pos _ r0 r1 r2 (Bytes.nil _ _) rfl (by omega) (by simp) HR).mono ?_
  rintro e w3 ⟨rfl, hb3⟩
  go_wp2_with fail
  refine (model_below _ 0 0 [] pos _ r0 r1 r2 (Bytes.nil _ _) rfl (by omega) (by simp) HR).mono ?_
  rintro e w4 ⟨rfl, hb4⟩
  go_wp2_with fail
  refine wp_loop_rounds 1 ?_
  rw [rounds_succ]
  go_wp2
  go_ret
  exact ⟨rfl, (hb.trans (hb3.mono hb.size)).trans (hb4.mono (Nat.le_trans hb.size hb3.size))⟩

/-- A slice that is neither nil nor empty. -/
theorem law_some (b off n c : Nat) (zs : List Int) (pos : Int) (w : World) (hz : zs.length = n) (h0 : 0 < n) (hn : n ≤ 4096) (hw : ∀ j, 0 ≤ zs.getD j 0 ∧ zs.getD j 0 ≤ 255)
    (hc : ∀ j, j < n → w.cell? ⟨b, off + j, none⟩ = some (.int .u8 (zs.getD j 0))) :
    Calls Yanv.prog 3 #[.slice (some ⟨b, off, none⟩) n c, .int .i64 pos] w fun e w' => e = .returned (.bool true) ∧ Below w.heap.size w w' := by
  obtain ⟨r0, r1, r2, hr⟩ : ∃ r0 r1 r2, rl zs pos = (r0, r1, r2) := ⟨_, _, _, rfl⟩
  have HR : Hid (rl zs pos = (r0, r1, r2)) := hr
  have HZ : Hid (zs.length = n) := hz
  have HW : Hid (∀ j, 0 ≤ zs.getD j 0 ∧ zs.getD j 0 ≤ 255) := hw
  have HX : Bytes w (some ⟨b, off, none⟩) zs := .inr ⟨b, off, rfl, fun j hj => hc j (by omega)⟩
  clear hr hz hc hw
  have hne := fun (W : World) => run_neq_slice_nil_any (P := Yanv.prog) W 22 5 (some ⟨b, off, none⟩) n c 0 0 Yanv.underlying22
  go_enter Yanv.func3, Yanv.ntmps3
  go_wp2_with (at_make; refine wpList_make_bytes _ rfl (.tmp 19) (.tmp 19) rfl _ n rfl rfl rfl (by omega) ?_)
  intro w1 hroom hb1
  go_wp2_with (refine wpList_copy_bytes _ rfl (.tmp 21) (.tmp 22) rfl w.heap.size n c _ rfl rfl zs HZ.out hroom (HX.later hb1) ?_)
  intro w2 hblk hb2
  have hb := hb1.trans hb2
  clear hb1 hb2 hroom
  go_wp2_with fail
  refine (read_below _ n c zs pos _ r0 r1 r2 (HX.later hb) HZ.out hn HW.out HR).mono ?_
  rintro e w3 ⟨rfl, hb3⟩
  have hblk3 := hblk.below hb3 hblk.lt
  have hb' := hb.trans (hb3.mono hb.size)
  clear hblk hb hb3
  go_wp2_with fail
  refine (model_below _ n n zs pos _ r0 r1 r2 hblk3.bytes HZ.out hn HW.out HR).mono ?_
  rintro e w4 ⟨rfl, hb4⟩
  have hblk4 := hblk3.below hb4 hblk3.lt
  have hb := hb'.trans (hb4.mono hb'.size)
  clear hblk3 hb' hb4
  go_wp2_with fail
  go_loopw [12] (fun i wr => ∃ k : Nat, k ≤ n ∧ i = .int .i64 k ∧ Below w4.heap.size w4 wr) (fun i _ => n - (intOf i).toNat)
  case atStart => exact ⟨0, Nat.zero_le _, rfl, Below.refl _ _⟩
  case round =>
    obtain ⟨k, hk, rfl, hbr⟩ := hrel
    by_cases hlt : k < n
    · have hk1 : (k : Int) < (n : Int) := by omega
      obtain ⟨v, hv1, hv2⟩ : ∃ v, wr.cell? ⟨b, off + k, none⟩ = some (.int .u8 v) ∧ wr.cell? ⟨w.heap.size, k, none⟩ = some (.int .u8 v) := by
        have hkz : k < zs.length := by rw [HZ.out]; exact hlt
        refine ⟨zs.getD k 0, (HX.later (hb.trans (hbr.mono hb.size))).cellAt hkz, ?_⟩
        have := (hblk4.bytes.later hbr).cellAt hkz
        rwa [Nat.zero_add] at this
      go_wp2
      go_quiet (fail)
      go_wp2
      go_roundw
      case rel => exact ⟨k + 1, by omega, by go_num, below_drewN hbr _⟩
      case measure => simp [intOf]; omega
    · go_wp2
      go_ret
      exact ⟨rfl, hb.trans (hbr.mono hb.size)⟩

/-- Whatever comes in. -/
theorem law_any (a : Option Addr) (len cap : Nat) (zs : List Int) (pos : Int) (w : World)
    (h : (a = none ∧ len = 0 ∧ cap = 0 ∧ zs = []) ∨
      ∃ x, a = some x ∧ len ≤ cap ∧ cap ≤ maxLen ∧ zs.length = cap ∧ (∀ i, i < zs.length → w.cell? (x.add i) = some (.int .u8 (zs.getD i 0))) ∧ ∀ n ∈ zs, (Lit.int .u8 n).wf = true) :
    Calls Yanv.prog 3 #[.slice a len cap, .int .i64 pos] w fun e w' => e = .returned (.bool true) ∧ Below w.heap.size w w' := by
  rcases h with ⟨rfl, rfl, rfl, rfl⟩ | ⟨x, rfl, hl, hm, hz, hcell, hwz⟩
  · exact law_nil pos w
  by_cases hlong : 4096 < len
  · exact law_long _ len cap pos w hlong
  by_cases h0 : len = 0
  · subst h0
    exact law_empty x cap pos w
  have hlt : (zs.take len).length = len := by rw [List.length_take]; omega
  rcases Bytes.came hl hz hcell with he | ⟨b, off, hx, hc⟩
  · rw [he] at hlt; simp at hlt; omega
  · cases hx
    exact law_some b off len cap (zs.take len) pos w hlt (by omega) (by omega) (getD_range fun n hn => hwz n (List.mem_of_mem_take hn)) (fun j hj => hc j (by omega))

end Go.Proofs.Ymwhan.Qaa
