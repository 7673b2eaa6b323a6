/-
  tlv.LawS930003QABWhole (function 4): the walk.
-/
import Derived.Test.YmwhanQabTail
import Derived.Deep.DeepCutAuto
import Derived.Deep.CutBlock
namespace Go.Proofs.Ymwhan.Qab
open Go.RowKit
set_option linter.unusedVariables false

theorem int_nat (x : Int) (h : 0 ≤ x) : ∃ L : Nat, Value.int .i64 x = .int .i64 (L : Int) ∧ (L : Int) = x := ⟨x.toNat, by rw [Int.toNat_of_nonneg h], Int.toNat_of_nonneg h⟩
theorem hid_imp {p q : Prop} (h : p → q) : Hid (p → q) := h
theorem hid_some (x : Addr) (p : Prop) : Hid (some x = none → p) := fun h => by cases h

set_option maxRecDepth 20000 in
/-- dst is too long: true at once. -/
theorem law_long0 (a0 : Option Addr) (n0 c0 : Nat) (t : Int) (a2 : Option Addr) (n2 c2 : Nat) (md ext : Int) (w : World) (h : 1024 < n0) :
    Calls Yanv.prog 4 #[.slice a0 n0 c0, .int .u8 t, .slice a2 n2 c2, .int .u8 md, .int .u16 ext] w fun e w' => e = .returned (.bool true) ∧ Below w.heap.size w w' := by
  have hi : decide ((1024 : Int) < (n0 : Int)) = true := decide_eq_true (by omega)
  go_enter Yanv.func4, Yanv.ntmps4
  go_wp2
  go_ret
  exact ⟨rfl, Below.refl _ _⟩

set_option maxRecDepth 20000 in
/-- value is too long: true at once. -/
theorem law_long2 (a0 : Option Addr) (n0 c0 : Nat) (t : Int) (a2 : Option Addr) (n2 c2 : Nat) (md ext : Int) (w : World) (h0 : n0 ≤ 1024) (h : 1024 < n2) :
    Calls Yanv.prog 4 #[.slice a0 n0 c0, .int .u8 t, .slice a2 n2 c2, .int .u8 md, .int .u16 ext] w fun e w' => e = .returned (.bool true) ∧ Below w.heap.size w w' := by
  have h1 : decide ((1024 : Int) < (n0 : Int)) = false := decide_eq_false (by omega)
  have h2 : decide ((1024 : Int) < (n2 : Int)) = true := decide_eq_true (by omega)
  go_enter Yanv.func4, Yanv.ntmps4
  go_wp2
  go_ret
  exact ⟨rfl, Below.refl _ _⟩

set_option maxRecDepth 20000 in
set_option maxHeartbeats 2000000 in
/-- The road proper. Four cuts (d is made; the switch; v is made; the length field), each first half a lemma of its own: in one piece the build's memory peaks at 8.3 GB, so at 3.6 GB. -/
theorem law_main (a0 : Option Addr) (n0 c0 : Nat) (xs : List Int) (t : Int) (a2 : Option Addr) (n2 c2 : Nat) (vs : List Int) (md ext : Int) (w : World) (h0 : n0 ≤ 1024) (h2 : n2 ≤ 1024)
    (hx : xs.length = n0) (hx0 : a0 = none → n0 = 0 ∧ c0 = 0) (hxs : Bytes w a0 xs) (hv : vs.length = n2) (hv0 : a2 = none → n2 = 0 ∧ c2 = 0) (hvs : Bytes w a2 vs) (hm0 : 0 ≤ md) (hm1 : md ≤ 255) (he0 : 0 ≤ ext) (he1 : ext ≤ 65535) :
    Calls Yanv.prog 4 #[.slice a0 n0 c0, .int .u8 t, .slice a2 n2 c2, .int .u8 md, .int .u16 ext] w fun e w' => e = .returned (.bool true) ∧ Below w.heap.size w w' := by
  have d1 : decide ((1024 : Int) < (n0 : Int)) = false := decide_eq_false (by omega)
  have d2 : decide ((1024 : Int) < (n2 : Int)) = false := decide_eq_false (by omega)
  have q1 := fun (W : World) => run_neq_slice_nil_any (P := Yanv.prog) W 22 5 a0 n0 c0 0 0 Yanv.underlying22
  have q3 := fun (W : World) (ad : Option Addr) => Lib.run_eql_slice_nil (P := Yanv.prog) W 22 5 ad n0 n0 0 0 Yanv.underlying22
  have q2 := fun (W : World) => run_neq_slice_nil_any (P := Yanv.prog) W 22 5 a2 n2 c2 0 0 Yanv.underlying22
  have Hx : Hid (xs.length = n0) := hx
  have Hx0 : Hid (a0 = none → n0 = 0 ∧ c0 = 0) := hx0
  have Hv : Hid (vs.length = n2) := hv
  have Hv0 : Hid (a2 = none → n2 = 0 ∧ c2 = 0) := hv0
  clear hx hx0 hv hv0
  go_enter Yanv.func4, Yanv.ntmps4
  go_upto_if 29 with fail
  go_cut [11] (fun s11 wx => ∃ ad, s11 = .slice ad n0 n0 ∧ Hid (ad = none → n0 = 0) ∧ Bytes wx ad xs ∧ Below w.heap.size w wx)
  case first => as_aux_lemma =>
    by_cases hd : a0.isSome = true
    · rw [hd]
      go_wp2_with (first | (at_make; go_must (refine wpList_make_bytes _ rfl (.tmp 31) (.tmp 31) rfl _ n0 rfl rfl rfl (by omega) ?_; intro w1 hroom hb1)) | (refine wpList_copy_bytes _ rfl (.tmp 33) (.tmp 34) rfl w.heap.size n0 c0 a0 rfl rfl xs Hx.out hroom (hxs.later hb1) ?_; intro w2 hblk hb2))
      go_meet
      case rel => exact ⟨_, rfl, hid_some _ _, hblk.bytes, hb1.trans hb2⟩
    · have hd' : a0.isSome = false := by simpa using hd
      have hnone : a0 = none := by simpa using hd'
      obtain ⟨e1, e2⟩ := Hx0.out hnone
      have ex : xs = [] := List.eq_nil_of_length_eq_zero (by rw [Hx.out, e1])
      have E1 : Hid (n0 = 0) := e1
      have EX : Hid (xs = []) := ex
      clear hnone e1 e2 ex hd
      rw [hd']
      go_wp2
      go_meet
      case rel => exact ⟨none, by rw [E1.out], (show none = none → n0 = 0 from fun _ => E1.out), .inl EX.out, Below.refl _ _⟩
  case rest =>
  obtain ⟨ad, rfl, Had, hbd, hbw⟩ := hcut
  have hvd := hvs.later hbw
  have hxd := hxs.later hbw
  clear hvs hxs q1
  go_upto_block 0 with fail
  go_cut [13] (fun s13 wx => ∃ L : Nat, s13 = .int .i64 L ∧ L ≤ 65537 ∧ Hid (md % 4 = 0 → L = n2) ∧ wc = wx)
  case first => as_aux_lemma =>
    by_cases m1 : md % 4 = 1
    · have M : Hid (md % 4 = 1) := m1
      have b1 : (md % 4 == 1) = true := by simpa using m1
      clear m1
      go_wp2
      go_meet
      case rel =>
        obtain ⟨L, hl, hL⟩ := int_nat (120 + ext % 20) (by omega)
        exact ⟨L, hl, by omega, hid_imp fun h => by have := M.out; omega, rfl⟩
    by_cases m2 : md % 4 = 2
    · have M : Hid (md % 4 = 2) := m2
      have b1 : (md % 4 == 1) = false := by simpa using m1
      have b2 : (md % 4 == 2) = true := by simpa using m2
      clear m1 m2
      go_wp2
      go_meet
      case rel =>
        obtain ⟨L, hl, hL⟩ := int_nat (250 + ext % 12) (by omega)
        exact ⟨L, hl, by omega, hid_imp fun h => by have := M.out; omega, rfl⟩
    by_cases m3 : md % 4 = 3
    · have M : Hid (md % 4 = 3) := m3
      have b1 : (md % 4 == 1) = false := by simpa using m1
      have b2 : (md % 4 == 2) = false := by simpa using m2
      have b3 : (md % 4 == 3) = true := by simpa using m3
      clear m1 m2 m3
      go_wp2
      go_meet
      case rel =>
        obtain ⟨L, hl, hL⟩ := int_nat (65533 + ext % 5) (by omega)
        exact ⟨L, hl, by omega, hid_imp fun h => by have := M.out; omega, rfl⟩
    have b1 : (md % 4 == 1) = false := by simpa using m1
    have b2 : (md % 4 == 2) = false := by simpa using m2
    have b3 : (md % 4 == 3) = false := by simpa using m3
    clear m1 m2 m3
    go_wp2
    go_meet
    case rel => exact ⟨n2, rfl, by omega, hid_imp fun _ => rfl, rfl⟩
  case rest =>
  obtain ⟨L, rfl, hL, HL, rfl⟩ := hcut
  go_upto_if 60 with fail
  go_cut [14] (fun s14 wx => ∃ av ys, s14 = .slice av L L ∧ Hid (av = none → L = 0) ∧ Hid (ys.length = L) ∧ Bytes wx av ys ∧ Below wc.heap.size wc wx)
  case first => as_aux_lemma =>
    clear hbd hxd
    by_cases m0 : md % 4 = 0
    · have eL := HL.out m0
      subst eL
      have b0 : (md % 4 == 0) = true := by simpa using m0
      clear m0
      by_cases hd : a2.isSome = true
      · rw [b0]
        go_wp2_with (first | (at_make; go_must (refine wpList_make_bytes _ rfl (.tmp 63) (.tmp 63) rfl _ L rfl rfl rfl (by omega) ?_; intro w1 hroom hb1)) | (refine wpList_copy_bytes _ rfl (.tmp 65) (.tmp 66) rfl wc.heap.size L c2 a2 rfl rfl vs Hv.out hroom (hvd.later hb1) ?_; intro w2 hblk hb2))
        go_meet
        case rel => exact ⟨_, vs, rfl, hid_some _ _, Hv, hblk.bytes, hb1.trans hb2⟩
      · have hd' : a2.isSome = false := by simpa using hd
        have hnone : a2 = none := by simpa using hd'
        have E1 : Hid (L = 0) := (Hv0.out hnone).1
        clear hnone hd
        rw [b0]
        go_wp2
        go_meet
        case rel => exact ⟨none, [], by rw [E1.out], hid_imp fun _ => E1.out, E1.out.symm, .inl rfl, Below.refl _ _⟩
    · have b0 : (md % 4 == 0) = false := by simpa using m0
      clear m0
      rw [b0]
      by_cases h00 : n2 = 0
      · subst h00
        go_wp2_with (at_make; go_must (refine wpList_make_noughts _ rfl (.tmp 68) (.tmp 68) rfl _ L rfl rfl rfl (by omega) ?_; intro w1 hblk hb1))
        go_loopw [15] (fun i wr => ∃ k : Nat, k ≤ L ∧ i = .int .i64 k ∧ ∃ zs, Hid (zs.length = L) ∧ Block wr wc.heap.size zs ∧ Below wc.heap.size wc wr) (fun i _ => L - (intOf i).toNat)
        case atStart => exact ⟨0, Nat.zero_le _, rfl, _, List.length_replicate, hblk, hb1⟩
        case round =>
          obtain ⟨k, hk, rfl, zs, Hz, hbk, hbr⟩ := hrel
          by_cases hlt : k < L
          · obtain ⟨y, hy⟩ := hbk.cell (k := k) (by rw [Hz.out]; exact hlt)
            have hf := hbk.free k
            go_wp2
            go_roundw
            case rel => exact ⟨k + 1, by omega, by go_num, _, by rw [List.length_set]; exact Hz.out, hbk.store k _, hbr.setCell (Nat.le_refl _) _⟩
            case measure => simp [intOf]; omega
          · go_wp2
            go_meet
            case rel => exact ⟨_, zs, rfl, hid_some _ _, Hz, hbk.bytes, hbr⟩
      · rcases hvd with hnil | ⟨b, off, ha, hc⟩
        · exact absurd (by rw [← Hv.out, hnil]; rfl) h00
        subst ha
        have hpos : (0 : Int) < (n2 : Int) := by omega
        clear h00
        go_wp2_with (at_make; go_must (refine wpList_make_noughts _ rfl (.tmp 68) (.tmp 68) rfl _ L rfl rfl rfl (by omega) ?_; intro w1 hblk hb1))
        go_loopw [15] (fun i wr => ∃ k : Nat, k ≤ L ∧ i = .int .i64 k ∧ ∃ zs, Hid (zs.length = L) ∧ Block wr wc.heap.size zs ∧ Below wc.heap.size wc wr) (fun i _ => L - (intOf i).toNat)
        case atStart => exact ⟨0, Nat.zero_le _, rfl, _, List.length_replicate, hblk, hb1⟩
        case round =>
          obtain ⟨k, hk, rfl, zs, Hz, hbk, hbr⟩ := hrel
          by_cases hlt : k < L
          · obtain ⟨y, hy⟩ := hbk.cell (k := k) (by rw [Hz.out]; exact hlt)
            have hf := hbk.free k
            have hk1 : (k : Int) < (L : Int) := by omega
            obtain ⟨r, hr, hrn, hcr⟩ : ∃ r : Nat, (k : Int) % (n2 : Int) = (r : Int) ∧ (r : Int) < (n2 : Int) ∧ wr.cell? ⟨b, off + r, none⟩ = some (.int .u8 (vs.getD r 0)) := by
              have hm : k % n2 < n2 := Nat.mod_lt _ (by omega)
              refine ⟨k % n2, by simp, by omega, ?_⟩
              have h1 := hc (k % n2) (by rw [Hv.out]; exact hm)
              exact cell_later hbr h1
            clear hc
            go_wp2
            go_roundw
            case rel => exact ⟨k + 1, by omega, by go_num, _, by rw [List.length_set]; exact Hz.out, hbk.store k _, hbr.setCell (Nat.le_refl _) _⟩
            case measure => simp [intOf]; omega
          · go_wp2
            go_meet
            case rel => exact ⟨_, zs, rfl, hid_some _ _, Hz, hbk.bytes, hbr⟩
  case rest =>
  obtain ⟨av, ys, rfl, Hav, Hy, hbv, hbx⟩ := hcut
  have hbw' := hbw.trans (hbx.mono hbw.size)
  have hxd' := hxd.later hbx
  have hbd' := hbd.later hbx
  clear hbw hxd hbd hbx hvd q2 HL
  go_wp2_with (first | (at_make; go_must (refine wpList_make_bytes _ rfl (.tmp 96) (.tmp 96) rfl _ L rfl rfl rfl (by omega) ?_; intro w1 hroom hb1)) | (refine wpList_copy_bytes _ rfl (.tmp 98) (.tmp 99) rfl wc.heap.size L L av rfl rfl ys Hy.out hroom (hbv.later hb1) ?_; intro w2 hblk hb2))
  have hbk := hb1.trans hb2
  have hbv' := hbv.later hbk
  have hbd := hbd'.later hbk
  have hxd := hxd'.later hbk
  have hbw := hbw'.trans (hbk.mono hbw'.size)
  have hkp := hblk.bytes
  clear hb1 hb2 hroom hbv hbd' hxd' hbw' hbk hblk
  by_cases hLL : 65535 < L
  · have hi : (65535 : Int) < (L : Int) := by omega
    refine (rec_long ad n0 n0 t av L L _ hLL (by omega)).mono ?_
    rintro e w3 ⟨rfl, hb3⟩
    have hbv := hbv'.later hb3
    have hbd' := hbd.later hb3
    have hxd' := hxd.later hb3
    have hkp' := hkp.later hb3
    have hbw' := hbw.trans (hb3.mono hbw.size)
    clear hb3 hbv' hbd hxd hkp hbw
    go_wp2_with fail
    refine (eq_any ad a0 n0 n0 c0 xs _ Hx.out (by omega) hbd' hxd').mono ?_
    rintro e w4 ⟨rfl, hb4⟩
    have hbv' := hbv.later hb4
    have hbd := hbd'.later hb4
    have hkp := hkp'.later hb4
    have hbw := hbw'.trans (hb4.mono hbw'.size)
    clear hb4 hbv hbd' hxd' hkp' hbw'
    go_wp2_with fail
    refine (eq_any av _ L L L ys _ Hy.out (by omega) hbv' hkp).mono ?_
    rintro e w5 ⟨rfl, hb5⟩
    have hbd' := hbd.later hb5
    have hbw' := hbw.trans (hb5.mono hbw.size)
    clear hb5 hbv' hbd hkp hbw
    go_wp2_with fail
    refine (eq_any ad ad n0 n0 n0 xs _ Hx.out (by omega) hbd' hbd').mono ?_
    rintro e w6 ⟨rfl, hb6⟩
    have hbw := hbw'.trans (hb6.mono hbw'.size)
    clear hb6 hbd' hbw'
    go_wp2
    go_ret
    exact ⟨rfl, hbw⟩
  have hLe : L ≤ 65535 := by omega
  clear hLL hL q3
  obtain ⟨A, HA⟩ : ∃ A, Hid (xs ++ [t] = A) := ⟨_, rfl⟩
  obtain ⟨F, HF⟩ : ∃ F, Hid (A ++ lenf L = F) := ⟨_, rfl⟩
  obtain ⟨R, HR⟩ : ∃ R, Hid (F ++ ys = R) := ⟨_, rfl⟩
  obtain ⟨M, HM⟩ : ∃ M, Hid (n0 + 1 + (lenf L).length = M) := ⟨_, rfl⟩
  have hM1 : M ≤ n0 + 4 := by have := lenf_le L; have := HM.out; omega
  refine (rec_letters ad n0 xs t av L L ys _ M R HM.out (by rw [HA.out, HF.out, HR.out]) Had.out h0 Hx.out hbd (none_of Hav) hLe Hy.out hbv').mono ?_
  rintro e w3 ⟨g, cap, rfl, hown, hb3⟩
  have hbv := hbv'.later hb3
  have hbd' := hbd.later hb3
  have hxd' := hxd.later hb3
  have hkp' := hkp.later hb3
  have hbw' := hbw.trans (hb3.mono hbw.size)
  have hlen : Hid (R.length = M + L) := hown.1
  have hob := hown.bytes
  clear hb3 hbv' hbd hxd hkp hbw hown
  go_wp2_with fail
  refine (eq_any ad a0 n0 n0 c0 xs _ Hx.out (by omega) hbd' hxd').mono ?_
  rintro e w4 ⟨rfl, hb4⟩
  have hbv' := hbv.later hb4
  have hbd := hbd'.later hb4
  have hkp := hkp'.later hb4
  have hob' := hob.later hb4
  have hbw := hbw'.trans (hb4.mono hbw'.size)
  clear hb4 hbv hbd' hxd' hkp' hbw' hob
  go_wp2_with fail
  refine (eq_any av _ L L L ys _ Hy.out (by omega) hbv' hkp).mono ?_
  rintro e w5 ⟨rfl, hb5⟩
  have hbv := hbv'.later hb5
  have hbd' := hbd.later hb5
  have hob := hob'.later hb5
  have hbw' := hbw.trans (hb5.mono hbw.size)
  clear hb5 hbv' hbd hkp hbw hob'
  go_upto_if 149 with (first | (at_make; go_must (refine wpList_make_room _ rfl _ (.tmp 139) rfl _ (n0 + L + 4) rfl rfl (by omega) (by omega) ?_; intro w6 hown6 hb6)) | (at_builtin; refine wpList_append_letters _ rfl (.tmp 141) (.tmp 142) rfl w5.heap.size w5.heap.size 0 (n0 + L + 4) [] rfl hown6 ad n0 n0 xs rfl (none_of Had) Hx.out (hbd'.later hb6) n0 xs (by omega) rfl (by omega) hb6.size ?_; intro g7 cap7 w7 hown7 hb7) | (at_builtin; refine wpList_append_letters _ rfl (.tmp 144) (.tmp 146) rfl w5.heap.size g7 n0 cap7 xs rfl (hown7.alloc _) (some ⟨w7.heap.size, 0, none⟩) 1 1 [t] rfl (by simp) rfl (bytes_new1 w7 _) (n0 + 1) A rfl HA.out (by omega) (by have := hb6.size; have := hb7.size; simp; omega) ?_; intro g8 cap8 w8 hown8 hb8))
  have hbE : Below w5.heap.size w5 w8 := ((hb6.trans hb7).alloc (Nat.le_trans hb6.size hb7.size) _).trans hb8
  have hs8 : w5.heap.size ≤ w8.heap.size := hbE.size
  clear hown6 hown7 hb6 hb7 hb8 hbd'
  go_cut [19] (fun s19 wx => ∃ g cap, s19 = .slice (some ⟨g, 0, none⟩) M cap ∧ Own wx w5.heap.size g M cap F ∧ Below w5.heap.size w5 wx)
  case first => as_aux_lemma =>
    clear hob hbv hbw'
    by_cases hs1 : L < 128
    · have HN : Hid (n0 + 1 + 1 = M) := by have := HM.out; rw [lenf_one hs1] at this; exact this
      have HE : Hid (A ++ [(L : Int)] = F) := by have := HF.out; rw [lenf_one hs1] at this; exact this
      go_wp2_with (at_builtin; go_must (refine wpList_append_letters _ rfl (.tmp 150) (.tmp 153) rfl w5.heap.size g8 (n0 + 1) cap8 A rfl (hown8.alloc _) (some ⟨w8.heap.size, 0, none⟩) 1 1 [(L : Int)] rfl (by simp) rfl (bytes_new1 w8 _) M F HN.out HE.out (by omega) (by simp; omega) ?_; intro g9 cap9 w9 hown9 hb9))
      go_meet
      case rel => exact ⟨g9, cap9, rfl, hown9, (hbE.alloc hs8 _).trans hb9⟩
    by_cases hs2 : L < 256
    · have HN : Hid (n0 + 1 + 2 = M) := by have := HM.out; rw [lenf_two (by omega) hs2] at this; exact this
      have HE : Hid (A ++ [129, (L : Int)] = F) := by have := HF.out; rw [lenf_two (by omega) hs2] at this; exact this
      go_wp2_with (at_builtin; go_must (refine wpList_append_letters _ rfl (.tmp 157) (.tmp 160) rfl w5.heap.size g8 (n0 + 1) cap8 A rfl (hown8.alloc _) (some ⟨w8.heap.size, 0, none⟩) 2 2 [129, (L : Int)] rfl (by simp) rfl (bytes_new2 w8 _ _) M F HN.out HE.out (by omega) (by simp; omega) ?_; intro g9 cap9 w9 hown9 hb9))
      go_meet
      case rel => exact ⟨g9, cap9, rfl, hown9, (hbE.alloc hs8 _).trans hb9⟩
    have HN : Hid (n0 + 1 + 3 = M) := by have := HM.out; rw [lenf_three (by omega)] at this; exact this
    have HE : Hid (A ++ [130, (L : Int) / 256, (L : Int) % 256] = F) := by have := HF.out; rw [lenf_three (by omega)] at this; exact this
    have e255 : bits .and .i64 (L : Int) 255 = (L : Int) % 256 := i64_and255 _ (by omega) (by omega)
    go_wp2_with (at_builtin; go_must (refine wpList_append_letters _ rfl (.tmp 162) (.tmp 169) rfl w5.heap.size g8 (n0 + 1) cap8 A rfl (hown8.alloc _) (some ⟨w8.heap.size, 0, none⟩) 3 3 [130, (L : Int) / 256, (L : Int) % 256] rfl (by simp) rfl (bytes_new3 w8 _ _ _) M F HN.out HE.out (by omega) (by simp; omega) ?_; intro g9 cap9 w9 hown9 hb9))
    go_meet
    case rel => exact ⟨g9, cap9, rfl, hown9, (hbE.alloc hs8 _).trans hb9⟩
  case rest =>
  obtain ⟨g9, cap9, rfl, hown9, hb9⟩ := hcut
  clear hown8 hbE hs8
  have hs9 := hb9.size
  go_wp2_with (at_builtin; go_must (refine wpList_append_letters _ rfl (.tmp 171) (.tmp 172) rfl w5.heap.size g9 M cap9 F rfl hown9 av L L ys rfl (none_of Hav) Hy.out (hbv.later hb9) (M + L) R rfl HR.out (by omega) hs9 ?_; intro g10 cap10 w10 hown10 hb10))
  have hbT := hb9.trans hb10
  have hob' := hob.later hbT
  have hxb := hown10.bytes
  have hbw := hbw'.trans (hbT.mono hbw'.size)
  clear hown9 hown10 hb9 hb10 hob hbw' hbT
  refine (eq_any _ _ (M + L) cap cap10 R _ hlen.out (by omega) hob' hxb).mono ?_
  rintro e w11 ⟨rfl, hb11⟩
  have hbF := hbw.trans (hb11.mono hbw.size)
  clear hb11 hob' hxb hbw
  go_wp2
  go_ret
  exact ⟨rfl, hbF⟩

/-- What comes in, as the walk wants it. -/
theorem came {w : World} {a : Option Addr} {len cap : Nat} {zs : List Int}
    (h : (a = none ∧ len = 0 ∧ cap = 0 ∧ zs = []) ∨
      ∃ x, a = some x ∧ len ≤ cap ∧ cap ≤ maxLen ∧ zs.length = cap ∧ (∀ i, i < zs.length → w.cell? (x.add i) = some (.int .u8 (zs.getD i 0))) ∧ ∀ n ∈ zs, (Lit.int .u8 n).wf = true) :
    (zs.take len).length = len ∧ (a = none → len = 0 ∧ cap = 0) ∧ Bytes w a (zs.take len) := by
  rcases h with ⟨rfl, rfl, rfl, rfl⟩ | ⟨x, rfl, hl, hm, hz, hcell, hwz⟩
  · exact ⟨rfl, fun _ => ⟨rfl, rfl⟩, .inl rfl⟩
  · exact ⟨by rw [List.length_take]; omega, (fun e => by cases e), Bytes.came hl hz hcell⟩

/-- Whatever comes in. -/
theorem law_any (a0 : Option Addr) (n0 c0 : Nat) (z0 : List Int) (t : Int) (a2 : Option Addr) (n2 c2 : Nat) (z2 : List Int) (md ext : Int) (w : World)
    (w0 : (a0 = none ∧ n0 = 0 ∧ c0 = 0 ∧ z0 = []) ∨
      ∃ x, a0 = some x ∧ n0 ≤ c0 ∧ c0 ≤ maxLen ∧ z0.length = c0 ∧ (∀ i, i < z0.length → w.cell? (x.add i) = some (.int .u8 (z0.getD i 0))) ∧ ∀ n ∈ z0, (Lit.int .u8 n).wf = true)
    (w2 : (a2 = none ∧ n2 = 0 ∧ c2 = 0 ∧ z2 = []) ∨
      ∃ x, a2 = some x ∧ n2 ≤ c2 ∧ c2 ≤ maxLen ∧ z2.length = c2 ∧ (∀ i, i < z2.length → w.cell? (x.add i) = some (.int .u8 (z2.getD i 0))) ∧ ∀ n ∈ z2, (Lit.int .u8 n).wf = true)
    (w3 : (Lit.int .u8 md).wf = true) (w4 : (Lit.int .u16 ext).wf = true) :
    Calls Yanv.prog 4 #[.slice a0 n0 c0, .int .u8 t, .slice a2 n2 c2, .int .u8 md, .int .u16 ext] w fun e w' => e = .returned (.bool true) ∧ Below w.heap.size w w' := by
  by_cases h0 : 1024 < n0
  · exact law_long0 a0 n0 c0 t a2 n2 c2 md ext w h0
  by_cases h2 : 1024 < n2
  · exact law_long2 a0 n0 c0 t a2 n2 c2 md ext w (by omega) h2
  obtain ⟨x1, x2, x3⟩ := came w0
  obtain ⟨v1, v2, v3⟩ := came w2
  have m := bounds_u8 w3
  have e := bounds_u16 w4
  exact law_main a0 n0 c0 (z0.take n0) t a2 n2 c2 (z2.take n2) md ext w (by omega) (by omega) x1 x2 x3 v1 v2 v3 m.1 m.2 e.1 e.2

end Go.Proofs.Ymwhan.Qab
