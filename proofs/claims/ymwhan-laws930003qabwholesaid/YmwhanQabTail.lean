/-
  The contracts and laws once more, with the lengths and the lists as letters.
-/
import Derived.Test.YmwhanQabRec
import Derived.Test.YmwhanQabEq
import Derived.Test.YmwhanQabFill
namespace Go.Proofs.Ymwhan.Qab
open Go.RowKit

theorem rec_letters (so : Option Addr) (n : Nat) (xs : List Int) (t : Int) (av : Option Addr) (lv cv : Nat) (ys : List Int) (w : World) (M : Nat) (R : List Int) (hM : n + 1 + (lenf lv).length = M) (hR : ((xs ++ [t]) ++ lenf lv) ++ ys = R)
    (hso : so = none → n = 0) (hn : n ≤ 1024) (hx : xs.length = n) (hold : Bytes w so xs) (hav : av = none → lv = 0 ∧ cv = 0) (hl : lv ≤ 65535) (hy : ys.length = lv) (hval : Bytes w av ys) :
    Calls Yanv.prog 7 #[.slice so n n, .agg #[.int .u8 t, .slice av lv cv]] w fun e w' => ∃ g cap, e = .returned (.tuple #[.slice (some ⟨g, 0, none⟩) (M + lv) cap, .bool true]) ∧ Own w' w.heap.size g (M + lv) cap R ∧ Below w.heap.size w w' := by
  subst hM
  subst hR
  exact rec_ok so n xs t av lv cv ys w hso hn hx hold hav hl hy hval

theorem wpList_append_letters (w : World) {ops : Array Oper} {rest : List Oper} {o : Oper} {a : Act} {Q : Exit → Act → World → Prop}
    (hgd : o.guard = none) (s x : Operand) (ho : o.op = .call { callee := .builtin .append, args := #[s, x], argTypes := #[22, 22] })
    (base g n cap : Nat) (zs : List Int) (hs : a.eval s = .slice (some ⟨g, 0, none⟩) n cap) (hown : Own w base g n cap zs)
    (ao : Option Addr) (m c : Nat) (ys : List Int) (hx : a.eval x = .slice ao m c) (hnone : ao = none → m = 0 ∧ c = 0) (hy : ys.length = m) (hsrc : Bytes w ao ys) (N : Nat) (R : List Int) (hN : n + m = N) (hR : zs ++ ys = R) (hn : N ≤ 1048576) (hbase : base ≤ w.heap.size)
    (h : ∀ g' cap' w', Own w' base g' N cap' R → Below base w w' → wpList Yanv.prog ops Q rest (a.put o.dst (.slice (some ⟨g', 0, none⟩) N cap')) w') :
    wpList Yanv.prog ops Q (o :: rest) a w := by
  subst hN
  subst hR
  exact wpList_append_bytes w hgd s x ho base g n cap zs hs hown ao m c ys hx hnone hy hsrc hn hbase h

theorem lenf_one {L : Nat} (h : L < 128) : lenf L = [(L : Int)] := by unfold lenf; rw [if_pos h]
theorem lenf_two {L : Nat} (h0 : 128 ≤ L) (h : L < 256) : lenf L = [129, (L : Int)] := by unfold lenf; rw [if_neg (by omega), if_pos h]
theorem lenf_three {L : Nat} (h0 : 256 ≤ L) : lenf L = [130, (L : Int) / 256, (L : Int) % 256] := by unfold lenf; rw [if_neg (by omega), if_neg (by omega)]

/-- 'L & 255' -/
theorem wraps_i64 (n : Int) (h₀ : 0 ≤ n) (h₁ : n < 2 ^ 62) : IntKind.i64.wrap n = n := by rw [IntKind.wrap_i64]; omega
theorem i64_and255 (x : Int) (h₀ : 0 ≤ x) (h₁ : x < 1048576) : bits .and .i64 x 255 = x % 256 :=
  bits_mask .i64 62 (by decide) wraps_i64 8 (by decide) x h₀ (by omega)

theorem none_of {a : Option Addr} {n : Nat} (h : Hid (a = none → n = 0)) : a = none → n = 0 ∧ n = 0 := fun e => ⟨h.out e, h.out e⟩

end Go.Proofs.Ymwhan.Qab
