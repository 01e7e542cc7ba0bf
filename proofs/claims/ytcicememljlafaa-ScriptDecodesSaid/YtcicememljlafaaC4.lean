/- The reference's Decode and Valid. -/
import Derived.Test.YtcicememljlafaaC3
namespace Go.Proofs.Ytcicememljlafaa
open Go.RowKit
open Runes (ann ann' cont fst acc conts len dec dec' bt bt_lt bt_ge bt_bd enc bs)
theorem dec'_of {s : ByteArray} {n : Nat} (h0 : 0 < s.size) (hn : ann' (bt s 0) = n) :
    (conts s (n - 1) = false → dec s = 0) ∧ (conts s (n - 1) = true → len (acc s (fst (bt s 0) n) (n - 1)) = 0 → dec s = 0) ∧
    (conts s (n - 1) = true → len (acc s (fst (bt s 0) n) (n - 1)) ≠ 0 → bs (enc (acc s (fst (bt s 0) n) (n - 1))) ≠ s.extract 0 n → dec s = 0) ∧
    (conts s (n - 1) = true → len (acc s (fst (bt s 0) n) (n - 1)) ≠ 0 → bs (enc (acc s (fst (bt s 0) n) (n - 1))) = s.extract 0 n → dec s = n) := by
  rw [Runes.dec_eq]
  have e : dec' s = if conts s (n - 1) = false then 0 else if len (acc s (fst (bt s 0) n) (n - 1)) = 0 then 0 else if enc (acc s (fst (bt s 0) n) (n - 1)) = (List.range n).map (bt s) then n else 0 := by
    unfold dec'
    rw [if_neg (by omega), hn]
  have hsz : conts s (n - 1) = true → n ≤ s.size := fun h => by
    have := Runes.conts_size h h0
    omega
  rw [e]
  refine ⟨fun h => by rw [if_pos h], fun h h' => by rw [if_neg (by simp [h]), if_pos h'], fun h h' h'' => ?_, fun h h' h'' => ?_⟩
  · rw [if_neg (by simp [h]), if_neg h', if_neg (fun he => h'' ((Runes.enc_eq (hsz h)).2 he))]
  · rw [if_neg (by simp [h]), if_neg h', if_pos ((Runes.enc_eq (hsz h)).1 h'')]
def DecRef (s : ByteArray) (w : World) (e : Ending) (w' : World) : Prop :=
  ∃ r : Int, e = .returned (.tuple #[.int .i64 r, .int .i64 (dec s), .int .i64 (if dec s = 0 then 11 else 0)]) ∧ Below w.heap.size w w'
theorem decRef_no {s : ByteArray} {w w' : World} (h : dec s = 0) (hw : Below w.heap.size w w') : DecRef s w (.returned (.tuple #[.int .i64 0, .int .i64 0, .int .i64 11])) w' := by
  refine ⟨0, ?_, hw⟩
  rw [h]; rfl
theorem decRef_yes {s : ByteArray} {w w' : World} {r : Int} {n : Nat} (h : dec s = n) (hn : 0 < n) (hw : Below w.heap.size w w') : DecRef s w (.returned (.tuple #[.int .i64 r, .int .i64 n, .int .i64 0])) w' := by
  refine ⟨r, ?_, hw⟩
  rw [h, if_neg (by omega)]
set_option maxRecDepth 100000 in
set_option maxHeartbeats 0 in
theorem decodeRef (s : ByteArray) (w : World) (h0 : 0 < s.size) (hm : s.size ≤ 9223372036854775807) : Calls Try.prog 60 #[.string s] w (DecRef s w) := by
  have hse : s.toList.isEmpty = false := by rw [isEmpty_of, decide_eq_false_iff_not]; omega
  have hb0 : bt s 0 = ((s[0]'h0).toNat : Int) := bt_lt h0
  have hsi : (0 : Int) < (s.size : Int) := by omega
  have hbd := UInt8.toNat_lt (s[0]'h0)
  obtain ⟨n, hn⟩ : ∃ n, ann' (bt s 0) = n := ⟨_, rfl⟩
  have HB0 := Lib.hid hb0
  have HN := Lib.hid hn
  have HB := Lib.hid (Below.refl w.heap.size w)
  clear hb0 hn
  have HDD := Lib.hid (dec'_of h0 HN.out)
  have hn4 : n = 1 ∨ n = 2 ∨ n = 3 ∨ n = 4 := by rw [← HN.out]; unfold ann'; (repeat' split) <;> omega
  obtain rfl | rfl | rfl | rfl := hn4
  · have hann : 0 ≤ bt s 0 ∧ bt s 0 < 192 := by
      have hbb := bt_bd s 0
      have := HN.out; revert this; unfold ann'; (repeat' split) <;> intro h <;> omega
    have hann2 := hann
    rw [HB0.out] at hann2
    have hann3 := hann2.1
    have hann4 := hann2.2
    have efst : fst (bt s 0) 1 = bt s 0 - 0 := by show bt s 0 = bt s 0 - 0; omega
    have hand : ((s[0]'h0).toNat : Int) = fst (bt s 0) 1 := by rw [← HB0.out, efst]; omega
    have HAND := Lib.hid hand
    have hfb : 0 ≤ fst (bt s 0) 1 ∧ fst (bt s 0) 1 ≤ 255 := by omega
    clear hann efst hand hann2
    go_enter Try.func60, Try.ntmps60
    go_wp2
    generalize hr0 : fst (bt s 0) 1 = r0 at *
    have HR0 := Lib.hid hr0
    clear hr0
    have hr0' := hfb.1
    have hr0'' := hfb.2
    clear hfb
    go_loopw [5, 7] (fun r i wr => ∃ k : Nat, k < 1 ∧ i = .int .i64 (k + 1 : Nat) ∧ r = .int .i64 (acc s r0 k) ∧ Hid (conts s k = true) ∧ wr = w) (fun _ i _ => 6 - (intOf i).toNat)
    case atStart => exact ⟨0, by omega, rfl, congrArg _ HAND.out, rfl, rfl⟩
    case round =>
      obtain ⟨k, hk, rfl, rfl, HT, rfl⟩ := hrel
      have hab := acc_bd hr0' hr0'' k HT.out
      have hab1 := hab.1
      have hab2 : acc s r0 k ≤ 67108863 := by
        obtain rfl : k = 0 := by omega
        all_goals (have := hab.2; omega)
      clear hab
      have HA := Lib.hid (acc_succ s r0 k)
      generalize hak : acc s r0 k = a at *
      have HAA := Lib.hid hak
      clear hak
      by_cases hlt : k + 1 < 1
      · exact absurd hlt (by omega)
      · obtain rfl : k = 0 := by omega
        have hef : ∀ W : World, Calls Try.prog 65 #[.int .i64 a] W (EncRes a W) := fun W => encodeFn a W hab1 (by omega)
        have hd2 := HDD.out.2
        rw [show (1 - 1 : Nat) = 0 from rfl, HAA.out] at hd2
        have hns : (1 : Int) ≤ (s.size : Int) := by
          have := Runes.conts_size HT.out h0
          omega
        have HD2 := Lib.hid hd2
        clear hd2
        by_cases hl : len a = 0
        · have HD : Hid (dec s = 0) := HD2.out.1 HT.out hl
          have hef' : ∀ W : World, Calls Try.prog 65 #[.int .i64 a] W fun e w' => ∃ t, e = .returned (.tuple #[.string t, .int .i64 2]) ∧ Below W.heap.size W w' := fun W =>
            (hef W).mono fun e w' h => by obtain ⟨t, ht⟩ := h.1 hl; exact ⟨t, ht, h.2.2⟩
          have HE := Lib.hid hef'
          clear hef hef' hl
          go_wp2_with ((with_reducible refine (HE.out _).mono ?_); rintro e w' ⟨t, rfl, hbel⟩)
          all_goals go_ret3
          all_goals exact decRef_no HD.out (by assumption)
        · have hef' : ∀ W : World, Calls Try.prog 65 #[.int .i64 a] W fun e w' => e = .returned (.tuple #[.string (bs (enc a)), .int .i64 0]) ∧ Below W.heap.size W w' := fun W =>
            (hef W).mono fun e w' h => ⟨h.2.1 hl, h.2.2⟩
          by_cases heq : bs (enc a) = s.extract 0 1
          · have HD : Hid (dec s = 1) := HD2.out.2.2 HT.out hl heq
            rw [heq] at hef'
            have HE := Lib.hid hef'
            clear hef hef' hl heq
            go_wp2_with ((with_reducible refine (HE.out _).mono ?_); rintro e w' ⟨rfl, hbel⟩)
            all_goals go_ret3
            all_goals exact decRef_yes (n := 1) HD.out (by decide) (by assumption)
          · have HD : Hid (dec s = 0) := HD2.out.2.1 HT.out hl heq
            generalize bs (enc a) = t at *
            have htl : (t.toList == (s.extract 0 1).toList) = false := by
              rw [beq_eq_false_iff_ne]
              exact fun h => heq (bytes_ext.1 h)
            have HE := Lib.hid hef'
            clear hef hef' hl
            go_wp2_with ((with_reducible refine (HE.out _).mono ?_); rintro e w' ⟨rfl, hbel⟩)
            all_goals go_ret3
            all_goals exact decRef_no HD.out (by assumption)
  · have hann : 192 ≤ bt s 0 ∧ bt s 0 < 224 := by
      have hbb := bt_bd s 0
      have := HN.out; revert this; unfold ann'; (repeat' split) <;> intro h <;> omega
    have hann2 := hann
    rw [HB0.out] at hann2
    have hann3 := hann2.1
    have hann4 := hann2.2
    have efst : fst (bt s 0) 2 = bt s 0 - 192 := by rfl
    have hand : ((s[0]'h0).toNat : Int) - 192 = fst (bt s 0) 2 := by rw [← HB0.out, efst]
    have HAND := Lib.hid hand
    have hfb : 0 ≤ fst (bt s 0) 2 ∧ fst (bt s 0) 2 ≤ 255 := by omega
    clear hann efst hand hann2
    go_enter Try.func60, Try.ntmps60
    go_wp2
    generalize hr0 : fst (bt s 0) 2 = r0 at *
    have HR0 := Lib.hid hr0
    clear hr0
    have hr0' := hfb.1
    have hr0'' := hfb.2
    clear hfb
    go_loopw [5, 7] (fun r i wr => ∃ k : Nat, k < 2 ∧ i = .int .i64 (k + 1 : Nat) ∧ r = .int .i64 (acc s r0 k) ∧ Hid (conts s k = true) ∧ wr = w) (fun _ i _ => 6 - (intOf i).toNat)
    case atStart => exact ⟨0, by omega, rfl, congrArg _ HAND.out, rfl, rfl⟩
    case round =>
      obtain ⟨k, hk, rfl, rfl, HT, rfl⟩ := hrel
      have hab := acc_bd hr0' hr0'' k HT.out
      have hab1 := hab.1
      have hab2 : acc s r0 k ≤ 67108863 := by
        obtain rfl | rfl : k = 0 ∨ k = 1 := by omega
        all_goals (have := hab.2; omega)
      clear hab
      have HA := Lib.hid (acc_succ s r0 k)
      generalize hak : acc s r0 k = a at *
      have HAA := Lib.hid hak
      clear hak
      by_cases hlt : k + 1 < 2
      · have hki : ((k + 1 : Nat) : Int) < 2 := by omega
        by_cases hks : k + 1 < s.size
        · have hksi : ((k + 1 : Nat) : Int) < (s.size : Int) := by omega
          have hbk := UInt8.toNat_lt (s[k + 1]'hks)
          have HBK := Lib.hid (bt_lt hks)
          by_cases hc : cont (bt s (k + 1)) = true
          · have hcf : ∀ W : World, Calls Try.prog 64 #[.int .u8 ((s[k + 1]'hks).toNat : Int)] W fun e w' => e = .returned (.bool true) ∧ W = w' := by
              intro W
              have := contFn ((s[k + 1]'hks).toNat : Int) W (by omega) (by omega)
              rw [← HBK.out, hc] at this
              rw [← HBK.out]; exact this
            have HCF := Lib.hid hcf
            have HCC := Lib.hid hc
            clear hcf hc
            go_wp2_with ((with_reducible refine (HCF.out _).mono ?_); rintro e w' ⟨rfl, rfl⟩)
            go_roundw
            case rel =>
              have hcb := Runes.cont_iff.1 HCC.out
              refine ⟨k + 1, by omega, by go_num, ?_, ?_, by first | rfl | trivial⟩
              · rw [HA.out]
                have := HBK.out
                congr 1
                omega
              · show conts s (k + 1) = true
                simp [conts, HT.out, HCC.out]
            case measure => simp [intOf]; omega
          · have hcf : ∀ W : World, Calls Try.prog 64 #[.int .u8 ((s[k + 1]'hks).toNat : Int)] W fun e w' => e = .returned (.bool false) ∧ W = w' := by
              intro W
              have hc' : cont (bt s (k + 1)) = false := by simpa using hc
              have := contFn ((s[k + 1]'hks).toNat : Int) W (by omega) (by omega)
              rw [← HBK.out, hc'] at this
              rw [← HBK.out]; exact this
            have HCF := Lib.hid hcf
            have HD : Hid (dec s = 0) := by
              refine HDD.out.1 (conts_mono (k := k + 1) (by omega) ?_)
              simp only [conts, HT.out, Bool.true_and]; simpa using hc
            clear hcf hc
            go_wp2_with ((with_reducible refine (HCF.out _).mono ?_); rintro e w' ⟨rfl, rfl⟩)
            go_ret3
            exact decRef_no HD.out HB.out
        · have hksi : (s.size : Int) ≤ ((k + 1 : Nat) : Int) := by omega
          have HD : Hid (dec s = 0) := by
            refine HDD.out.1 (conts_mono (k := k + 1) (by omega) ?_)
            simp only [conts, HT.out, Bool.true_and, bt_ge hks]; rfl
          go_wp2
          go_ret3
          exact decRef_no HD.out HB.out
      · obtain rfl : k = 1 := by omega
        have hef : ∀ W : World, Calls Try.prog 65 #[.int .i64 a] W (EncRes a W) := fun W => encodeFn a W hab1 (by omega)
        have hd2 := HDD.out.2
        rw [show (2 - 1 : Nat) = 1 from rfl, HAA.out] at hd2
        have hns : (2 : Int) ≤ (s.size : Int) := by
          have := Runes.conts_size HT.out h0
          omega
        have HD2 := Lib.hid hd2
        clear hd2
        by_cases hl : len a = 0
        · have HD : Hid (dec s = 0) := HD2.out.1 HT.out hl
          have hef' : ∀ W : World, Calls Try.prog 65 #[.int .i64 a] W fun e w' => ∃ t, e = .returned (.tuple #[.string t, .int .i64 2]) ∧ Below W.heap.size W w' := fun W =>
            (hef W).mono fun e w' h => by obtain ⟨t, ht⟩ := h.1 hl; exact ⟨t, ht, h.2.2⟩
          have HE := Lib.hid hef'
          clear hef hef' hl
          go_wp2_with ((with_reducible refine (HE.out _).mono ?_); rintro e w' ⟨t, rfl, hbel⟩)
          all_goals go_ret3
          all_goals exact decRef_no HD.out (by assumption)
        · have hef' : ∀ W : World, Calls Try.prog 65 #[.int .i64 a] W fun e w' => e = .returned (.tuple #[.string (bs (enc a)), .int .i64 0]) ∧ Below W.heap.size W w' := fun W =>
            (hef W).mono fun e w' h => ⟨h.2.1 hl, h.2.2⟩
          by_cases heq : bs (enc a) = s.extract 0 2
          · have HD : Hid (dec s = 2) := HD2.out.2.2 HT.out hl heq
            rw [heq] at hef'
            have HE := Lib.hid hef'
            clear hef hef' hl heq
            go_wp2_with ((with_reducible refine (HE.out _).mono ?_); rintro e w' ⟨rfl, hbel⟩)
            all_goals go_ret3
            all_goals exact decRef_yes (n := 2) HD.out (by decide) (by assumption)
          · have HD : Hid (dec s = 0) := HD2.out.2.1 HT.out hl heq
            generalize bs (enc a) = t at *
            have htl : (t.toList == (s.extract 0 2).toList) = false := by
              rw [beq_eq_false_iff_ne]
              exact fun h => heq (bytes_ext.1 h)
            have HE := Lib.hid hef'
            clear hef hef' hl
            go_wp2_with ((with_reducible refine (HE.out _).mono ?_); rintro e w' ⟨rfl, hbel⟩)
            all_goals go_ret3
            all_goals exact decRef_no HD.out (by assumption)
  · have hann : 224 ≤ bt s 0 ∧ bt s 0 < 240 := by
      have hbb := bt_bd s 0
      have := HN.out; revert this; unfold ann'; (repeat' split) <;> intro h <;> omega
    have hann2 := hann
    rw [HB0.out] at hann2
    have hann3 := hann2.1
    have hann4 := hann2.2
    have efst : fst (bt s 0) 3 = bt s 0 - 224 := by rfl
    have hand : ((s[0]'h0).toNat : Int) - 224 = fst (bt s 0) 3 := by rw [← HB0.out, efst]
    have HAND := Lib.hid hand
    have hfb : 0 ≤ fst (bt s 0) 3 ∧ fst (bt s 0) 3 ≤ 255 := by omega
    clear hann efst hand hann2
    go_enter Try.func60, Try.ntmps60
    go_wp2
    generalize hr0 : fst (bt s 0) 3 = r0 at *
    have HR0 := Lib.hid hr0
    clear hr0
    have hr0' := hfb.1
    have hr0'' := hfb.2
    clear hfb
    go_loopw [5, 7] (fun r i wr => ∃ k : Nat, k < 3 ∧ i = .int .i64 (k + 1 : Nat) ∧ r = .int .i64 (acc s r0 k) ∧ Hid (conts s k = true) ∧ wr = w) (fun _ i _ => 6 - (intOf i).toNat)
    case atStart => exact ⟨0, by omega, rfl, congrArg _ HAND.out, rfl, rfl⟩
    case round =>
      obtain ⟨k, hk, rfl, rfl, HT, rfl⟩ := hrel
      have hab := acc_bd hr0' hr0'' k HT.out
      have hab1 := hab.1
      have hab2 : acc s r0 k ≤ 67108863 := by
        obtain rfl | rfl | rfl : k = 0 ∨ k = 1 ∨ k = 2 := by omega
        all_goals (have := hab.2; omega)
      clear hab
      have HA := Lib.hid (acc_succ s r0 k)
      generalize hak : acc s r0 k = a at *
      have HAA := Lib.hid hak
      clear hak
      by_cases hlt : k + 1 < 3
      · have hki : ((k + 1 : Nat) : Int) < 3 := by omega
        by_cases hks : k + 1 < s.size
        · have hksi : ((k + 1 : Nat) : Int) < (s.size : Int) := by omega
          have hbk := UInt8.toNat_lt (s[k + 1]'hks)
          have HBK := Lib.hid (bt_lt hks)
          by_cases hc : cont (bt s (k + 1)) = true
          · have hcf : ∀ W : World, Calls Try.prog 64 #[.int .u8 ((s[k + 1]'hks).toNat : Int)] W fun e w' => e = .returned (.bool true) ∧ W = w' := by
              intro W
              have := contFn ((s[k + 1]'hks).toNat : Int) W (by omega) (by omega)
              rw [← HBK.out, hc] at this
              rw [← HBK.out]; exact this
            have HCF := Lib.hid hcf
            have HCC := Lib.hid hc
            clear hcf hc
            go_wp2_with ((with_reducible refine (HCF.out _).mono ?_); rintro e w' ⟨rfl, rfl⟩)
            go_roundw
            case rel =>
              have hcb := Runes.cont_iff.1 HCC.out
              refine ⟨k + 1, by omega, by go_num, ?_, ?_, by first | rfl | trivial⟩
              · rw [HA.out]
                have := HBK.out
                congr 1
                omega
              · show conts s (k + 1) = true
                simp [conts, HT.out, HCC.out]
            case measure => simp [intOf]; omega
          · have hcf : ∀ W : World, Calls Try.prog 64 #[.int .u8 ((s[k + 1]'hks).toNat : Int)] W fun e w' => e = .returned (.bool false) ∧ W = w' := by
              intro W
              have hc' : cont (bt s (k + 1)) = false := by simpa using hc
              have := contFn ((s[k + 1]'hks).toNat : Int) W (by omega) (by omega)
              rw [← HBK.out, hc'] at this
              rw [← HBK.out]; exact this
            have HCF := Lib.hid hcf
            have HD : Hid (dec s = 0) := by
              refine HDD.out.1 (conts_mono (k := k + 1) (by omega) ?_)
              simp only [conts, HT.out, Bool.true_and]; simpa using hc
            clear hcf hc
            go_wp2_with ((with_reducible refine (HCF.out _).mono ?_); rintro e w' ⟨rfl, rfl⟩)
            go_ret3
            exact decRef_no HD.out HB.out
        · have hksi : (s.size : Int) ≤ ((k + 1 : Nat) : Int) := by omega
          have HD : Hid (dec s = 0) := by
            refine HDD.out.1 (conts_mono (k := k + 1) (by omega) ?_)
            simp only [conts, HT.out, Bool.true_and, bt_ge hks]; rfl
          go_wp2
          go_ret3
          exact decRef_no HD.out HB.out
      · obtain rfl : k = 2 := by omega
        have hef : ∀ W : World, Calls Try.prog 65 #[.int .i64 a] W (EncRes a W) := fun W => encodeFn a W hab1 (by omega)
        have hd2 := HDD.out.2
        rw [show (3 - 1 : Nat) = 2 from rfl, HAA.out] at hd2
        have hns : (3 : Int) ≤ (s.size : Int) := by
          have := Runes.conts_size HT.out h0
          omega
        have HD2 := Lib.hid hd2
        clear hd2
        by_cases hl : len a = 0
        · have HD : Hid (dec s = 0) := HD2.out.1 HT.out hl
          have hef' : ∀ W : World, Calls Try.prog 65 #[.int .i64 a] W fun e w' => ∃ t, e = .returned (.tuple #[.string t, .int .i64 2]) ∧ Below W.heap.size W w' := fun W =>
            (hef W).mono fun e w' h => by obtain ⟨t, ht⟩ := h.1 hl; exact ⟨t, ht, h.2.2⟩
          have HE := Lib.hid hef'
          clear hef hef' hl
          go_wp2_with ((with_reducible refine (HE.out _).mono ?_); rintro e w' ⟨t, rfl, hbel⟩)
          all_goals go_ret3
          all_goals exact decRef_no HD.out (by assumption)
        · have hef' : ∀ W : World, Calls Try.prog 65 #[.int .i64 a] W fun e w' => e = .returned (.tuple #[.string (bs (enc a)), .int .i64 0]) ∧ Below W.heap.size W w' := fun W =>
            (hef W).mono fun e w' h => ⟨h.2.1 hl, h.2.2⟩
          by_cases heq : bs (enc a) = s.extract 0 3
          · have HD : Hid (dec s = 3) := HD2.out.2.2 HT.out hl heq
            rw [heq] at hef'
            have HE := Lib.hid hef'
            clear hef hef' hl heq
            go_wp2_with ((with_reducible refine (HE.out _).mono ?_); rintro e w' ⟨rfl, hbel⟩)
            all_goals go_ret3
            all_goals exact decRef_yes (n := 3) HD.out (by decide) (by assumption)
          · have HD : Hid (dec s = 0) := HD2.out.2.1 HT.out hl heq
            generalize bs (enc a) = t at *
            have htl : (t.toList == (s.extract 0 3).toList) = false := by
              rw [beq_eq_false_iff_ne]
              exact fun h => heq (bytes_ext.1 h)
            have HE := Lib.hid hef'
            clear hef hef' hl
            go_wp2_with ((with_reducible refine (HE.out _).mono ?_); rintro e w' ⟨rfl, hbel⟩)
            all_goals go_ret3
            all_goals exact decRef_no HD.out (by assumption)
  · have hann : 240 ≤ bt s 0 ∧ bt s 0 ≤ 255 := by
      have hbb := bt_bd s 0
      have := HN.out; revert this; unfold ann'; (repeat' split) <;> intro h <;> omega
    have hann2 := hann
    rw [HB0.out] at hann2
    have hann3 := hann2.1
    have hann4 := hann2.2
    have efst : fst (bt s 0) 4 = bt s 0 - 240 := by rfl
    have hand : ((s[0]'h0).toNat : Int) - 240 = fst (bt s 0) 4 := by rw [← HB0.out, efst]
    have HAND := Lib.hid hand
    have hfb : 0 ≤ fst (bt s 0) 4 ∧ fst (bt s 0) 4 ≤ 255 := by omega
    clear hann efst hand hann2
    go_enter Try.func60, Try.ntmps60
    go_wp2
    generalize hr0 : fst (bt s 0) 4 = r0 at *
    have HR0 := Lib.hid hr0
    clear hr0
    have hr0' := hfb.1
    have hr0'' := hfb.2
    clear hfb
    go_loopw [5, 7] (fun r i wr => ∃ k : Nat, k < 4 ∧ i = .int .i64 (k + 1 : Nat) ∧ r = .int .i64 (acc s r0 k) ∧ Hid (conts s k = true) ∧ wr = w) (fun _ i _ => 6 - (intOf i).toNat)
    case atStart => exact ⟨0, by omega, rfl, congrArg _ HAND.out, rfl, rfl⟩
    case round =>
      obtain ⟨k, hk, rfl, rfl, HT, rfl⟩ := hrel
      have hab := acc_bd hr0' hr0'' k HT.out
      have hab1 := hab.1
      have hab2 : acc s r0 k ≤ 67108863 := by
        obtain rfl | rfl | rfl | rfl : k = 0 ∨ k = 1 ∨ k = 2 ∨ k = 3 := by omega
        all_goals (have := hab.2; omega)
      clear hab
      have HA := Lib.hid (acc_succ s r0 k)
      generalize hak : acc s r0 k = a at *
      have HAA := Lib.hid hak
      clear hak
      by_cases hlt : k + 1 < 4
      · have hki : ((k + 1 : Nat) : Int) < 4 := by omega
        by_cases hks : k + 1 < s.size
        · have hksi : ((k + 1 : Nat) : Int) < (s.size : Int) := by omega
          have hbk := UInt8.toNat_lt (s[k + 1]'hks)
          have HBK := Lib.hid (bt_lt hks)
          by_cases hc : cont (bt s (k + 1)) = true
          · have hcf : ∀ W : World, Calls Try.prog 64 #[.int .u8 ((s[k + 1]'hks).toNat : Int)] W fun e w' => e = .returned (.bool true) ∧ W = w' := by
              intro W
              have := contFn ((s[k + 1]'hks).toNat : Int) W (by omega) (by omega)
              rw [← HBK.out, hc] at this
              rw [← HBK.out]; exact this
            have HCF := Lib.hid hcf
            have HCC := Lib.hid hc
            clear hcf hc
            go_wp2_with ((with_reducible refine (HCF.out _).mono ?_); rintro e w' ⟨rfl, rfl⟩)
            go_roundw
            case rel =>
              have hcb := Runes.cont_iff.1 HCC.out
              refine ⟨k + 1, by omega, by go_num, ?_, ?_, by first | rfl | trivial⟩
              · rw [HA.out]
                have := HBK.out
                congr 1
                omega
              · show conts s (k + 1) = true
                simp [conts, HT.out, HCC.out]
            case measure => simp [intOf]; omega
          · have hcf : ∀ W : World, Calls Try.prog 64 #[.int .u8 ((s[k + 1]'hks).toNat : Int)] W fun e w' => e = .returned (.bool false) ∧ W = w' := by
              intro W
              have hc' : cont (bt s (k + 1)) = false := by simpa using hc
              have := contFn ((s[k + 1]'hks).toNat : Int) W (by omega) (by omega)
              rw [← HBK.out, hc'] at this
              rw [← HBK.out]; exact this
            have HCF := Lib.hid hcf
            have HD : Hid (dec s = 0) := by
              refine HDD.out.1 (conts_mono (k := k + 1) (by omega) ?_)
              simp only [conts, HT.out, Bool.true_and]; simpa using hc
            clear hcf hc
            go_wp2_with ((with_reducible refine (HCF.out _).mono ?_); rintro e w' ⟨rfl, rfl⟩)
            go_ret3
            exact decRef_no HD.out HB.out
        · have hksi : (s.size : Int) ≤ ((k + 1 : Nat) : Int) := by omega
          have HD : Hid (dec s = 0) := by
            refine HDD.out.1 (conts_mono (k := k + 1) (by omega) ?_)
            simp only [conts, HT.out, Bool.true_and, bt_ge hks]; rfl
          go_wp2
          go_ret3
          exact decRef_no HD.out HB.out
      · obtain rfl : k = 3 := by omega
        have hef : ∀ W : World, Calls Try.prog 65 #[.int .i64 a] W (EncRes a W) := fun W => encodeFn a W hab1 (by omega)
        have hd2 := HDD.out.2
        rw [show (4 - 1 : Nat) = 3 from rfl, HAA.out] at hd2
        have hns : (4 : Int) ≤ (s.size : Int) := by
          have := Runes.conts_size HT.out h0
          omega
        have HD2 := Lib.hid hd2
        clear hd2
        by_cases hl : len a = 0
        · have HD : Hid (dec s = 0) := HD2.out.1 HT.out hl
          have hef' : ∀ W : World, Calls Try.prog 65 #[.int .i64 a] W fun e w' => ∃ t, e = .returned (.tuple #[.string t, .int .i64 2]) ∧ Below W.heap.size W w' := fun W =>
            (hef W).mono fun e w' h => by obtain ⟨t, ht⟩ := h.1 hl; exact ⟨t, ht, h.2.2⟩
          have HE := Lib.hid hef'
          clear hef hef' hl
          go_wp2_with ((with_reducible refine (HE.out _).mono ?_); rintro e w' ⟨t, rfl, hbel⟩)
          all_goals go_ret3
          all_goals exact decRef_no HD.out (by assumption)
        · have hef' : ∀ W : World, Calls Try.prog 65 #[.int .i64 a] W fun e w' => e = .returned (.tuple #[.string (bs (enc a)), .int .i64 0]) ∧ Below W.heap.size W w' := fun W =>
            (hef W).mono fun e w' h => ⟨h.2.1 hl, h.2.2⟩
          by_cases heq : bs (enc a) = s.extract 0 4
          · have HD : Hid (dec s = 4) := HD2.out.2.2 HT.out hl heq
            rw [heq] at hef'
            have HE := Lib.hid hef'
            clear hef hef' hl heq
            go_wp2_with ((with_reducible refine (HE.out _).mono ?_); rintro e w' ⟨rfl, hbel⟩)
            all_goals go_ret3
            all_goals exact decRef_yes (n := 4) HD.out (by decide) (by assumption)
          · have HD : Hid (dec s = 0) := HD2.out.2.1 HT.out hl heq
            generalize bs (enc a) = t at *
            have htl : (t.toList == (s.extract 0 4).toList) = false := by
              rw [beq_eq_false_iff_ne]
              exact fun h => heq (bytes_ext.1 h)
            have HE := Lib.hid hef'
            clear hef hef' hl
            go_wp2_with ((with_reducible refine (HE.out _).mono ?_); rintro e w' ⟨rfl, hbel⟩)
            all_goals go_ret3
            all_goals exact decRef_no HD.out (by assumption)
end Go.Proofs.Ytcicememljlafaa
