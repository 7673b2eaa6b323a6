/-
  tlv.zzs930003qaamodel (function 6): her contract: she answers 'rl' too.
-/
import Derived.Test.YmwhanQaaRead
namespace Go.Proofs.Ymwhan.Qaa
open Go.RowKit
set_option linter.unusedVariables false

set_option maxHeartbeats 400000 in
theorem model_neg (a : Option Addr) (n c : Nat) (pos : Int) (w : World) (h : pos < 0) :
    Calls Yanv.prog 6 #[.slice a n c, .int .i64 pos] w fun e w' => e = .returned (.tuple #[.int .i64 0, .int .i64 pos, .int .i64 1]) ∧ ∃ m, w' = w.drewN m := by
  have hd : decide (pos < 0) = true := by simpa using h
  go_enter Yanv.func6, Yanv.ntmps6
  go_wp2
  go_ret3
  exact ⟨rfl, 0, rfl⟩

set_option maxHeartbeats 400000 in
theorem model_past (a : Option Addr) (n c : Nat) (pos : Int) (w : World) (h0 : 0 ≤ pos) (h : (n : Int) ≤ pos) :
    Calls Yanv.prog 6 #[.slice a n c, .int .i64 pos] w fun e w' => e = .returned (.tuple #[.int .i64 0, .int .i64 pos, .int .i64 1]) ∧ ∃ m, w' = w.drewN m := by
  have hd : decide (pos < 0) = false := by simpa using h0
  go_enter Yanv.func6, Yanv.ntmps6
  go_wp2
  go_ret3
  exact ⟨rfl, 0, rfl⟩

set_option maxHeartbeats 400000 in
theorem model_one (b off n c p : Nat) (f : Int) (w : World) (hp : p < n) (hn : n ≤ 4096) (hc : w.cell? ⟨b, off + p, none⟩ = some (.int .u8 f)) (h0 : 0 ≤ f) (hf : f < 128) :
    Calls Yanv.prog 6 #[.slice (some ⟨b, off, none⟩) n c, .int .i64 p] w fun e w' => e = .returned (.tuple #[.int .i64 f, .int .i64 (p + 1), .int .i64 0]) ∧ ∃ m, w' = w.drewN m := by
  go_enter Yanv.func6, Yanv.ntmps6
  go_wp2
  go_ret3
  exact ⟨rfl, 0, rfl⟩

set_option maxHeartbeats 400000 in
theorem model_bad (b off n c p : Nat) (f : Int) (w : World) (hp : p < n) (hn : n ≤ 4096) (hc : w.cell? ⟨b, off + p, none⟩ = some (.int .u8 f)) (hf : 128 ≤ f) (h1 : (f == 129) = false) (h2 : (f == 130) = false) :
    Calls Yanv.prog 6 #[.slice (some ⟨b, off, none⟩) n c, .int .i64 p] w fun e w' => e = .returned (.tuple #[.int .i64 0, .int .i64 p, .int .i64 2]) ∧ ∃ m, w' = w.drewN m := by
  go_enter Yanv.func6, Yanv.ntmps6
  go_wp2
  go_ret3
  exact ⟨rfl, 0, rfl⟩

set_option maxHeartbeats 400000 in
theorem model_81_cut (b off n c p : Nat) (w : World) (hp : p < n) (hn : n ≤ 4096) (hc : w.cell? ⟨b, off + p, none⟩ = some (.int .u8 129)) (h1 : (n : Int) - p < 2) :
    Calls Yanv.prog 6 #[.slice (some ⟨b, off, none⟩) n c, .int .i64 p] w fun e w' => e = .returned (.tuple #[.int .i64 0, .int .i64 p, .int .i64 1]) ∧ ∃ m, w' = w.drewN m := by
  go_enter Yanv.func6, Yanv.ntmps6
  go_wp2
  go_ret3
  exact ⟨rfl, 0, rfl⟩

set_option maxHeartbeats 400000 in
theorem model_82_cut (b off n c p : Nat) (w : World) (hp : p < n) (hn : n ≤ 4096) (hc : w.cell? ⟨b, off + p, none⟩ = some (.int .u8 130)) (h1 : (n : Int) - p < 3) :
    Calls Yanv.prog 6 #[.slice (some ⟨b, off, none⟩) n c, .int .i64 p] w fun e w' => e = .returned (.tuple #[.int .i64 0, .int .i64 p, .int .i64 1]) ∧ ∃ m, w' = w.drewN m := by
  go_enter Yanv.func6, Yanv.ntmps6
  go_wp2
  go_ret3
  exact ⟨rfl, 0, rfl⟩

theorem wraps_i64 (n : Int) (h₀ : 0 ≤ n) (h₁ : n < 2 ^ 62) : IntKind.i64.wrap n = n := by rw [IntKind.wrap_i64]; omega
theorem i64_or8 (x y : Int) (hx₀ : 0 ≤ x) (hx : x % 256 = 0) (hx₁ : x < 1048576) (hy₀ : 0 ≤ y) (hy : y < 256) : bits .or .i64 x y = x + y :=
  bits_join .i64 62 (by decide) wraps_i64 8 x y hx₀ hx (by omega) hy₀ hy (by omega)

set_option maxHeartbeats 400000 in
theorem model_81_ok (b off n c p : Nat) (s : Int) (w : World) (hp : p + 1 < n) (hn : n ≤ 4096) (hc : w.cell? ⟨b, off + p, none⟩ = some (.int .u8 129)) (hs : w.cell? ⟨b, off + (p + 1), none⟩ = some (.int .u8 s)) (h1 : 128 ≤ s) (h2 : s ≤ 255) :
    Calls Yanv.prog 6 #[.slice (some ⟨b, off, none⟩) n c, .int .i64 p] w fun e w' => e = .returned (.tuple #[.int .i64 s, .int .i64 (p + 2), .int .i64 0]) ∧ ∃ m, w' = w.drewN m := by
  have e1 : bits .or .i64 0 s = s := by rw [i64_or8 0 s (by omega) (by omega) (by omega) (by omega) (by omega)]; omega
  go_enter Yanv.func6, Yanv.ntmps6
  go_wp2
  refine wp_loop_rounds 2 ?_
  rw [rounds_succ]
  go_wp2
  rw [rounds_succ]
  go_wp2
  go_ret3
  exact ⟨by go_num, 0, rfl⟩

set_option maxHeartbeats 400000 in
theorem model_81_low (b off n c p : Nat) (s : Int) (w : World) (hp : p + 1 < n) (hn : n ≤ 4096) (hc : w.cell? ⟨b, off + p, none⟩ = some (.int .u8 129)) (hs : w.cell? ⟨b, off + (p + 1), none⟩ = some (.int .u8 s)) (s0 : 0 ≤ s) (h1 : s < 128) :
    Calls Yanv.prog 6 #[.slice (some ⟨b, off, none⟩) n c, .int .i64 p] w fun e w' => e = .returned (.tuple #[.int .i64 0, .int .i64 p, .int .i64 2]) ∧ ∃ m, w' = w.drewN m := by
  have e1 : bits .or .i64 0 s = s := by rw [i64_or8 0 s (by omega) (by omega) (by omega) (by omega) (by omega)]; omega
  go_enter Yanv.func6, Yanv.ntmps6
  go_wp2
  refine wp_loop_rounds 2 ?_
  rw [rounds_succ]
  go_wp2
  rw [rounds_succ]
  go_wp2
  go_ret3
  exact ⟨rfl, 0, rfl⟩

set_option maxHeartbeats 800000 in
theorem model_82_low (b off n c p : Nat) (s t : Int) (w : World) (hp : p + 2 < n) (hn : n ≤ 4096) (hc : w.cell? ⟨b, off + p, none⟩ = some (.int .u8 130)) (hs : w.cell? ⟨b, off + (p + 1), none⟩ = some (.int .u8 s)) (ht : w.cell? ⟨b, off + (p + 2), none⟩ = some (.int .u8 t))
    (s0 : 0 ≤ s) (s1 : s ≤ 255) (t0 : 0 ≤ t) (t1 : t ≤ 255) (h1 : s * 256 + t < 256) :
    Calls Yanv.prog 6 #[.slice (some ⟨b, off, none⟩) n c, .int .i64 p] w fun e w' => e = .returned (.tuple #[.int .i64 0, .int .i64 p, .int .i64 2]) ∧ ∃ m, w' = w.drewN m := by
  have e1 : bits .or .i64 0 s = s := by rw [i64_or8 0 s (by omega) (by omega) (by omega) (by omega) (by omega)]; omega
  have e2 : bits .or .i64 (s * 256) t = s * 256 + t := i64_or8 _ _ (by omega) (by omega) (by omega) (by omega) (by omega)
  go_enter Yanv.func6, Yanv.ntmps6
  go_wp2
  refine wp_loop_rounds 3 ?_
  rw [rounds_succ]
  go_wp2
  rw [rounds_succ]
  go_wp2
  rw [rounds_succ]
  go_wp2
  go_ret3
  exact ⟨rfl, 0, rfl⟩

set_option maxHeartbeats 800000 in
theorem model_82_ok (b off n c p : Nat) (s t : Int) (w : World) (hp : p + 2 < n) (hn : n ≤ 4096) (hc : w.cell? ⟨b, off + p, none⟩ = some (.int .u8 130)) (hs : w.cell? ⟨b, off + (p + 1), none⟩ = some (.int .u8 s)) (ht : w.cell? ⟨b, off + (p + 2), none⟩ = some (.int .u8 t))
    (s0 : 0 ≤ s) (s1 : s ≤ 255) (t0 : 0 ≤ t) (t1 : t ≤ 255) (h1 : 256 ≤ s * 256 + t) :
    Calls Yanv.prog 6 #[.slice (some ⟨b, off, none⟩) n c, .int .i64 p] w fun e w' => e = .returned (.tuple #[.int .i64 (s * 256 + t), .int .i64 (p + 3), .int .i64 0]) ∧ ∃ m, w' = w.drewN m := by
  have e1 : bits .or .i64 0 s = s := by rw [i64_or8 0 s (by omega) (by omega) (by omega) (by omega) (by omega)]; omega
  have e2 : bits .or .i64 (s * 256) t = s * 256 + t := i64_or8 _ _ (by omega) (by omega) (by omega) (by omega) (by omega)
  go_enter Yanv.func6, Yanv.ntmps6
  go_wp2
  refine wp_loop_rounds 3 ?_
  rw [rounds_succ]
  go_wp2
  rw [rounds_succ]
  go_wp2
  rw [rounds_succ]
  go_wp2
  go_ret3
  exact ⟨by go_num, 0, rfl⟩

theorem model_any (a : Option Addr) (n c : Nat) (zs : List Int) (pos : Int) (w : World) (r0 r1 r2 : Int) (hB : Bytes w a zs) (hz : zs.length = n) (hn : n ≤ 4096) (hw : ∀ j, 0 ≤ zs.getD j 0 ∧ zs.getD j 0 ≤ 255) (hr : rl zs pos = (r0, r1, r2)) :
    Calls Yanv.prog 6 #[.slice a n c, .int .i64 pos] w fun e w' => e = .returned (.tuple #[.int .i64 r0, .int .i64 r1, .int .i64 r2]) ∧ ∃ m, w' = w.drewN m := by
  unfold rl at hr
  by_cases h0 : pos < 0
  · rw [if_pos (.inl h0)] at hr; cases hr
    exact model_neg a n c pos w h0
  by_cases hp : (zs.length : Int) ≤ pos
  · rw [if_pos (.inr hp)] at hr; cases hr
    exact model_past a n c pos w (by omega) (by omega)
  rw [if_neg (by omega)] at hr
  obtain ⟨p, rfl⟩ := Int.eq_ofNat_of_zero_le (Int.not_lt.1 h0)
  rw [Int.toNat_natCast] at hr
  have hpn : p < n := by omega
  rcases hB with rfl | ⟨b, off, rfl, hc⟩
  · simp at hz; omega
  have c0 := hc p (by omega)
  have w0 := hw p
  generalize zs.getD p 0 = f at hr c0 w0
  by_cases hf : f < 128
  · rw [if_pos hf] at hr; cases hr
    exact model_one b off n c p _ w hpn hn c0 w0.1 hf
  rw [if_neg hf] at hr
  by_cases e1 : f = 129
  · subst e1
    rw [if_pos rfl] at hr
    by_cases l1 : (zs.length : Int) - p < 2
    · rw [if_pos l1] at hr; cases hr
      exact model_81_cut b off n c p w hpn hn c0 (by omega)
    rw [if_neg l1] at hr
    have c1 := hc (p + 1) (by omega)
    have w1 := hw (p + 1)
    generalize zs.getD (p + 1) 0 = s at hr c1 w1
    by_cases hs : s < 128
    · rw [if_pos hs] at hr; cases hr
      exact model_81_low b off n c p s w (by omega) hn c0 c1 w1.1 hs
    · rw [if_neg hs] at hr; cases hr
      exact model_81_ok b off n c p _ w (by omega) hn c0 c1 (by omega) w1.2
  rw [if_neg e1] at hr
  by_cases e2 : f = 130
  · subst e2
    rw [if_pos rfl] at hr
    by_cases l1 : (zs.length : Int) - p < 3
    · rw [if_pos l1] at hr; cases hr
      exact model_82_cut b off n c p w hpn hn c0 (by omega)
    rw [if_neg l1] at hr
    have c1 := hc (p + 1) (by omega)
    have w1 := hw (p + 1)
    have c2 := hc (p + 2) (by omega)
    have w2 := hw (p + 2)
    generalize zs.getD (p + 1) 0 = s at hr c1 w1
    generalize zs.getD (p + 2) 0 = t at hr c2 w2
    by_cases hs : s * 256 + t < 256
    · rw [if_pos hs] at hr; cases hr
      exact model_82_low b off n c p s t w (by omega) hn c0 c1 c2 w1.1 w1.2 w2.1 w2.2 hs
    · rw [if_neg hs] at hr; cases hr
      exact model_82_ok b off n c p s t w (by omega) hn c0 c1 c2 w1.1 w1.2 w2.1 w2.2 (by omega)
  rw [if_neg e2] at hr; cases hr
  exact model_bad b off n c p f w hpn hn c0 (by omega) (by simpa using e1) (by simpa using e2)

end Go.Proofs.Ymwhan.Qaa
