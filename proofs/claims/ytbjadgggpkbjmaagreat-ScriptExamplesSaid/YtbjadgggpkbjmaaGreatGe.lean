/- Merged texts: C1, C2, C3, C4, C5. -/
import Derived.Test.YtbjadgggpkbjmaaGreatGb
import Derived.WalkKit
import Derived.WalkSpells
import Derived.WalkLawsBesides
import Derived.Deep.QuietTactic
import Derived.BigQuiet
import Derived.Lib.Hide
import Derived.Deep.Draws
import Derived.Laws.BitsLemmas
import Derived.Below
import Derived.BigRegion
import Derived.Laws.IdiomStrings
/- Plain law: two ways to find the first rune of a string agree. -/
namespace Go.Proofs.YtbjadgggpkbjmaaGreat.Runes
/-- Byte i of a string as a number; 0 behind its end. -/
def bt (s : ByteArray) (i : Nat) : Int := if h : i < s.size then ((s[i]'h).toNat : Int) else 0
theorem bt_bd (s : ByteArray) (i : Nat) : 0 ≤ bt s i ∧ bt s i ≤ 255 := by
  unfold bt
  split
  · have := UInt8.toNat_lt (s[i]); omega
  · omega
theorem bt_lt {s : ByteArray} {i : Nat} (h : i < s.size) : bt s i = ((s[i]'h).toNat : Int) := by simp [bt, h]
theorem bt_ge {s : ByteArray} {i : Nat} (h : ¬ i < s.size) : bt s i = 0 := by simp [bt, h]
/-- How many bytes a first byte announces (the program's way). -/
def ann (b : Int) : Nat := if 244 < b then 0 else if 240 ≤ b then 4 else if 224 ≤ b then 3 else if 194 ≤ b then 2 else if b < 128 then 1 else 0
/-- .. (the reference's way). -/
def ann' (b : Int) : Nat := if 240 ≤ b then 4 else if 224 ≤ b then 3 else if 192 ≤ b then 2 else 1
def cont (b : Int) : Bool := decide (128 ≤ b) && decide (b ≤ 191)
/-- The bits of the first byte. -/
def fst (b : Int) (n : Nat) : Int := if n = 4 then b - 240 else if n = 3 then b - 224 else if n = 2 then b - 192 else b
/-- The number after k further bytes. -/
def acc (s : ByteArray) (r : Int) : Nat → Int
  | 0 => r
  | k + 1 => acc s r k * 64 + (bt s (k + 1) - 128)
def conts (s : ByteArray) : Nat → Bool
  | 0 => true
  | k + 1 => conts s k && cont (bt s (k + 1))
/-- How many bytes a number's encoding has. -/
def len (r : Int) : Nat := if r < 0 ∨ 1114111 < r ∨ (55296 ≤ r ∧ r ≤ 57343) then 0 else if r < 128 then 1 else if r < 2048 then 2 else if r < 65536 then 3 else 4
def enc (r : Int) : List Int :=
  if len r = 0 then [] else if r < 128 then [r] else if r < 2048 then [192 + r / 64, 128 + r % 64] else if r < 65536 then [224 + r / 4096, 128 + r / 64 % 64, 128 + r % 64]
  else [240 + r / 262144, 128 + r / 4096 % 64, 128 + r / 64 % 64, 128 + r % 64]
/-- The program's answer: the number of bytes of the first rune, 0 if there is none. -/
def dec (s : ByteArray) : Nat :=
  if s.size = 0 then 0 else
  if ann (bt s 0) = 0 ∨ s.size < ann (bt s 0) then 0 else
  if conts s (ann (bt s 0) - 1) = false then 0 else
  if len (acc s (fst (bt s 0) (ann (bt s 0))) (ann (bt s 0) - 1)) = ann (bt s 0) then ann (bt s 0) else 0
/-- The reference's answer. -/
def dec' (s : ByteArray) : Nat :=
  if s.size = 0 then 0 else
  if conts s (ann' (bt s 0) - 1) = false then 0 else
  if len (acc s (fst (bt s 0) (ann' (bt s 0))) (ann' (bt s 0) - 1)) = 0 then 0 else
  if enc (acc s (fst (bt s 0) (ann' (bt s 0))) (ann' (bt s 0) - 1)) = (List.range (ann' (bt s 0))).map (bt s) then ann' (bt s 0) else 0

theorem cont_iff {b : Int} : cont b = true ↔ 128 ≤ b ∧ b ≤ 191 := by simp [cont]
theorem conts_size {s : ByteArray} {k : Nat} (h : conts s k = true) (h0 : 0 < s.size) : k < s.size := by
  cases k with
  | zero => exact h0
  | succ k =>
    simp only [conts, Bool.and_eq_true, cont_iff] at h
    refine Classical.byContradiction fun hn => ?_
    have := bt_ge (s := s) (i := k + 1) hn
    omega
theorem dec_eq (s : ByteArray) : dec s = dec' s := by
  unfold dec dec'
  split
  · rfl
  · rename_i hs
    have h0 := bt_bd s 0
    have h1 := bt_bd s 1
    have h2 := bt_bd s 2
    have h3 := bt_bd s 3
    have hc := conts_size (s := s) (k := ann (bt s 0) - 1)
    have l1 : List.range 1 = [0] := rfl
    have l2 : List.range 2 = [0, 1] := rfl
    have l3 : List.range 3 = [0, 1, 2] := rfl
    have l4 : List.range 4 = [0, 1, 2, 3] := rfl
    by_cases a1 : bt s 0 < 128
    · have e : ann (bt s 0) = 1 := by unfold ann; (repeat' split) <;> first | rfl | omega
      have e' : ann' (bt s 0) = 1 := by unfold ann'; (repeat' split) <;> first | rfl | omega
      have el : len (bt s 0) = 1 := by unfold len; (repeat' split) <;> first | rfl | omega
      have ee : enc (bt s 0) = [bt s 0] := by unfold enc; rw [el]; simp [a1]
      rw [e, e']
      rw [if_neg (by omega)]
      simp [conts, acc, fst, el, ee, l1]
    · by_cases a2 : bt s 0 < 194
      · have e : ann (bt s 0) = 0 := by unfold ann; (repeat' split) <;> first | rfl | omega
        rw [if_pos (.inl e)]
        by_cases a3 : bt s 0 < 192
        · have e' : ann' (bt s 0) = 1 := by unfold ann'; (repeat' split) <;> first | rfl | omega
          have el : len (bt s 0) = 2 := by unfold len; (repeat' split) <;> first | rfl | omega
          have ee : enc (bt s 0) = [192 + bt s 0 / 64, 128 + bt s 0 % 64] := by unfold enc; rw [el, if_neg (by omega), if_neg a1, if_pos (by omega)]
          rw [e']
          simp [conts, acc, fst, el, ee, l1]
        · have e' : ann' (bt s 0) = 2 := by unfold ann'; (repeat' split) <;> first | rfl | omega
          rw [e']
          show 0 = if conts s 1 = false then 0 else _
          split
          · rfl
          · rename_i hk
            have hk' : 128 ≤ bt s 1 ∧ bt s 1 ≤ 191 := by simpa [conts, cont_iff] using hk
            show 0 = if len (acc s (fst (bt s 0) 2) 1) = 0 then 0 else _
            have er : acc s (fst (bt s 0) 2) 1 = (bt s 0 - 192) * 64 + (bt s 1 - 128) := rfl
            rw [er]
            generalize hr : (bt s 0 - 192) * 64 + (bt s 1 - 128) = r
            have el : len r = 1 := by unfold len; (repeat' split) <;> first | rfl | omega
            have ee : enc r = [r] := by unfold enc; rw [el, if_neg (by omega), if_pos (by omega)]
            simp [el, ee, l2]
      · by_cases a3 : bt s 0 < 224
        · have e : ann (bt s 0) = 2 := by unfold ann; (repeat' split) <;> first | rfl | omega
          have e' : ann' (bt s 0) = 2 := by unfold ann'; (repeat' split) <;> first | rfl | omega
          rw [e] at hc
          rw [e, e']
          show (if 2 = 0 ∨ s.size < 2 then 0 else if conts s 1 = false then 0 else _) = if conts s 1 = false then 0 else _
          by_cases hk : conts s 1 = true
          · have hz := hc hk (by omega)
            rw [if_neg (show ¬ (2 = 0 ∨ s.size < 2) by omega)]
            simp only [hk, Bool.true_eq_false, if_false]
            have hk' : 128 ≤ bt s 1 ∧ bt s 1 ≤ 191 := by simpa [conts, cont_iff] using hk
            have er : acc s (fst (bt s 0) 2) (2 - 1) = (bt s 0 - 192) * 64 + (bt s 1 - 128) := rfl
            rw [er]
            generalize hr : (bt s 0 - 192) * 64 + (bt s 1 - 128) = r
            have el : len r = 2 := by unfold len; (repeat' split) <;> first | rfl | omega
            have ee : enc r = [192 + r / 64, 128 + r % 64] := by unfold enc; rw [el, if_neg (by omega), if_neg (by omega), if_pos (by omega)]
            rw [el, ee, l2, if_pos rfl, if_neg (by omega), if_pos]
            simp only [List.map_cons, List.map_nil, List.cons.injEq, and_true]
            omega
          · have hk' : conts s 1 = false := by simpa using hk
            simp only [hk', if_true, ite_self]
        · by_cases a4 : bt s 0 < 240
          · have e : ann (bt s 0) = 3 := by unfold ann; (repeat' split) <;> first | rfl | omega
            have e' : ann' (bt s 0) = 3 := by unfold ann'; (repeat' split) <;> first | rfl | omega
            rw [e] at hc
            rw [e, e']
            show (if 3 = 0 ∨ s.size < 3 then 0 else if conts s 2 = false then 0 else _) = if conts s 2 = false then 0 else _
            by_cases hk : conts s 2 = true
            · have hz := hc hk (by omega)
              rw [if_neg (show ¬ (3 = 0 ∨ s.size < 3) by omega)]
              simp only [hk, Bool.true_eq_false, if_false]
              have hk' : (128 ≤ bt s 1 ∧ bt s 1 ≤ 191) ∧ 128 ≤ bt s 2 ∧ bt s 2 ≤ 191 := by simpa [conts, cont_iff] using hk
              have er : acc s (fst (bt s 0) 3) (3 - 1) = ((bt s 0 - 224) * 64 + (bt s 1 - 128)) * 64 + (bt s 2 - 128) := rfl
              rw [er]
              generalize hr : ((bt s 0 - 224) * 64 + (bt s 1 - 128)) * 64 + (bt s 2 - 128) = r
              by_cases hl : len r = 3
              · have hb : 2048 ≤ r ∧ r < 65536 := by
                  revert hl; unfold len; (repeat' split) <;> (intro hl; first | (cases hl; done) | omega)
                have ee : enc r = [224 + r / 4096, 128 + r / 64 % 64, 128 + r % 64] := by unfold enc; rw [hl, if_neg (by omega), if_neg (by omega), if_neg (by omega), if_pos (by omega)]
                rw [hl, ee, l3, if_pos rfl, if_neg (by omega), if_pos]
                simp only [List.map_cons, List.map_nil, List.cons.injEq, and_true]
                omega
              · rw [if_neg hl]
                split
                · rfl
                · rename_i h0
                  have hb : r < 2048 := by
                    refine Classical.byContradiction fun hn => ?_
                    revert hl h0; unfold len; (repeat' split) <;> (intro hl h0; first | (exact absurd rfl h0) | (exact absurd rfl hl) | omega)
                  rw [if_neg]
                  intro he
                  have := congrArg List.length he
                  revert this
                  unfold enc
                  rw [if_neg h0]
                  repeat' split
                  all_goals first | (simp; done) | omega
            · have hk' : conts s 2 = false := by simpa using hk
              simp only [hk', if_true, ite_self]
          · have e' : ann' (bt s 0) = 4 := by unfold ann'; (repeat' split) <;> first | rfl | omega
            rw [e']
            have er : acc s (fst (bt s 0) 4) (4 - 1) = (((bt s 0 - 240) * 64 + (bt s 1 - 128)) * 64 + (bt s 2 - 128)) * 64 + (bt s 3 - 128) := rfl
            by_cases hk : conts s 3 = true
            · have hk' : ((128 ≤ bt s 1 ∧ bt s 1 ≤ 191) ∧ 128 ≤ bt s 2 ∧ bt s 2 ≤ 191) ∧ 128 ≤ bt s 3 ∧ bt s 3 ≤ 191 := by simpa [conts, cont_iff] using hk
              have hk4 : conts s (4 - 1) = true := hk
              rw [er]
              generalize hr : (((bt s 0 - 240) * 64 + (bt s 1 - 128)) * 64 + (bt s 2 - 128)) * 64 + (bt s 3 - 128) = r
              rw [hk4]
              by_cases a5 : 244 < bt s 0
              · have e : ann (bt s 0) = 0 := by unfold ann; rw [if_pos a5]
                have el : len r = 0 := by unfold len; rw [if_pos (by omega)]
                rw [if_pos (.inl e), if_neg (by simp), if_pos el]
              · have e : ann (bt s 0) = 4 := by unfold ann; (repeat' split) <;> first | rfl | omega
                rw [e] at hc
                have hz := hc hk (by omega)
                rw [e, er, hr, if_neg (by omega), hk4]
                simp only [Bool.true_eq_false, if_false]
                by_cases hl : len r = 4
                · have hb : 65536 ≤ r ∧ r ≤ 1114111 := by
                    revert hl; unfold len; (repeat' split) <;> (intro hl; first | (cases hl; done) | omega)
                  have ee : enc r = [240 + r / 262144, 128 + r / 4096 % 64, 128 + r / 64 % 64, 128 + r % 64] := by unfold enc; rw [hl, if_neg (by omega), if_neg (by omega), if_neg (by omega), if_neg (by omega)]
                  rw [hl, ee, l4, if_pos rfl, if_neg (by omega), if_pos]
                  simp only [List.map_cons, List.map_nil, List.cons.injEq, and_true]
                  omega
                · rw [if_neg hl]
                  split
                  · rfl
                  · rename_i h0
                    have hb : r < 65536 := by
                      refine Classical.byContradiction fun hn => ?_
                      revert hl h0; unfold len; (repeat' split) <;> (intro hl h0; first | (exact absurd rfl h0) | (exact absurd rfl hl) | omega)
                    rw [if_neg]
                    intro he
                    have := congrArg List.length he
                    revert this
                    unfold enc
                    rw [if_neg h0]
                    repeat' split
                    all_goals first | (simp; done) | omega
            · have hk' : conts s (4 - 1) = false := by simpa using hk
              rw [if_pos hk']
              by_cases a5 : 244 < bt s 0
              · have e : ann (bt s 0) = 0 := by unfold ann; rw [if_pos a5]
                rw [if_pos (.inl e)]
              · have e : ann (bt s 0) = 4 := by unfold ann; (repeat' split) <;> first | rfl | omega
                rw [e, hk']
                split
                · rfl
                · rw [if_pos rfl]
theorem dec_le (s : ByteArray) : dec s ≤ s.size := by
  unfold dec
  (repeat' split) <;> omega
theorem dec_pos_of {s : ByteArray} (h : dec s ≠ 0) : 1 ≤ dec s ∧ dec s ≤ 4 := by
  have : dec s ≤ 4 := by
    unfold dec ann
    (repeat' split) <;> omega
  omega
/-- Whether a string's bytes from offset k on are whole runes. -/
inductive VF (s : ByteArray) : Nat → Bool → Prop
  | done {k : Nat} : s.size ≤ k → VF s k true
  | bad {k : Nat} : k < s.size → dec (s.extract k s.size) = 0 → VF s k false
  | step {k n : Nat} {b : Bool} : k < s.size → dec (s.extract k s.size) = n → 0 < n → VF s (k + n) b → VF s k b
theorem VF.ex (s : ByteArray) : ∀ m k, s.size - k ≤ m → ∃ b, VF s k b
  | 0, k, h => ⟨true, .done (by omega)⟩
  | m + 1, k, h => by
    by_cases hk : k < s.size
    · by_cases hd : dec (s.extract k s.size) = 0
      · exact ⟨false, .bad hk hd⟩
      · obtain ⟨b, hb⟩ := VF.ex s m (k + dec (s.extract k s.size)) (by omega)
        exact ⟨b, .step hk rfl (by omega) hb⟩
    · exact ⟨true, .done (by omega)⟩
theorem VF.stop {s : ByteArray} {k : Nat} {b : Bool} (h : VF s k b) (hk : s.size ≤ k) : b = true := by
  cases h with
  | done _ => rfl
  | bad h _ => omega
  | step h _ _ _ => omega
theorem VF.fail {s : ByteArray} {k : Nat} {b : Bool} (h : VF s k b) (hk : k < s.size) (hd : dec (s.extract k s.size) = 0) : b = false := by
  cases h with
  | done h => omega
  | bad _ _ => rfl
  | step _ e h _ => omega
theorem VF.next {s : ByteArray} {k n : Nat} {b : Bool} (h : VF s k b) (hk : k < s.size) (hd : dec (s.extract k s.size) = n) (hn : 0 < n) : VF s (k + n) b := by
  cases h with
  | done h => omega
  | bad _ e => omega
  | step _ e _ h => rw [← hd, e]; exact h
/-- Whether a string is valid UTF-8. -/
noncomputable def valid (s : ByteArray) : Bool := (VF.ex s s.size 0 (by omega)).choose
theorem valid_spec (s : ByteArray) : VF s 0 (valid s) := (VF.ex s s.size 0 (by omega)).choose_spec
end Go.Proofs.YtbjadgggpkbjmaaGreat.Runes
namespace Go.Proofs.YtbjadgggpkbjmaaGreat
open Go.RowKit
open Runes (ann cont fst acc conts len dec bt bt_lt bt_ge bt_bd)
theorem ret_i {k : IntKind} {a b : Int} (h : a = b) : Ending.returned (.int k a) = .returned (.int k b) := by rw [h]
theorem ret_b {a b : Bool} (h : a = b) : Ending.returned (.bool a) = .returned (.bool b) := by rw [h]

theorem announcedFn (b : Int) (w : World) (h0 : 0 ≤ b) (h1 : b ≤ 255) : Calls Tryz.prog 74 #[.int .u8 b] w fun e w' => e = .returned (.int .i64 (ann b)) ∧ w = w' := by
  by_cases c1 : 244 < b
  · have e : ann b = 0 := by simp [ann, c1]
    rw [e]
    go_enter Tryz.func74, Tryz.ntmps74
    go_wp2
    go_ret
    exact ⟨rfl, rfl⟩
  · by_cases c2 : 240 ≤ b
    · have e : ann b = 4 := by unfold ann; rw [if_neg c1, if_pos c2]
      rw [e]
      go_enter Tryz.func74, Tryz.ntmps74
      go_wp2
      go_ret
      exact ⟨rfl, rfl⟩
    · by_cases c3 : 224 ≤ b
      · have e : ann b = 3 := by unfold ann; rw [if_neg c1, if_neg c2, if_pos c3]
        rw [e]
        go_enter Tryz.func74, Tryz.ntmps74
        go_wp2
        go_ret
        exact ⟨rfl, rfl⟩
      · by_cases c4 : 194 ≤ b
        · have e : ann b = 2 := by unfold ann; rw [if_neg c1, if_neg c2, if_neg c3, if_pos c4]
          rw [e]
          go_enter Tryz.func74, Tryz.ntmps74
          go_wp2
          go_ret
          exact ⟨rfl, rfl⟩
        · by_cases c5 : b < 128
          · have e : ann b = 1 := by unfold ann; rw [if_neg c1, if_neg c2, if_neg c3, if_neg c4, if_pos c5]
            rw [e]
            go_enter Tryz.func74, Tryz.ntmps74
            go_wp2
            go_ret
            exact ⟨rfl, rfl⟩
          · have e : ann b = 0 := by unfold ann; rw [if_neg c1, if_neg c2, if_neg c3, if_neg c4, if_neg c5]
            rw [e]
            go_enter Tryz.func74, Tryz.ntmps74
            go_wp2
            go_ret
            exact ⟨rfl, rfl⟩

theorem continuesFn (b : Int) (w : World) (h0 : 0 ≤ b) (h1 : b ≤ 255) : Calls Tryz.prog 75 #[.int .u8 b] w fun e w' => e = .returned (.bool (cont b)) ∧ w = w' := by
  go_enter Tryz.func75, Tryz.ntmps75
  by_cases c1 : 128 ≤ b
  · by_cases c2 : b ≤ 191
    · have e : cont b = true := by simp [cont, c1, c2]
      rw [e]
      go_wp2
      go_ret
      exact ⟨rfl, rfl⟩
    · have e : cont b = false := by simp [cont, c2]
      rw [e]
      go_wp2
      go_ret
      exact ⟨rfl, rfl⟩
  · have e : cont b = false := by simp [cont, c1]
    rw [e]
    go_wp2
    go_ret
    exact ⟨rfl, rfl⟩

theorem lengthFn (r : Int) (w : World) (h0 : -9223372036854775808 ≤ r) (h1 : r ≤ 9223372036854775807) : Calls Tryz.prog 76 #[.int .i64 r] w fun e w' => e = .returned (.int .i64 (len r)) ∧ w = w' := by
  go_enter Tryz.func76, Tryz.ntmps76
  by_cases c1 : r < 0
  · have e : len r = 0 := by unfold len; rw [if_pos (.inl c1)]
    rw [e]
    go_wp2
    go_ret
    exact ⟨rfl, rfl⟩
  · by_cases c2 : 1114111 < r
    · have e : len r = 0 := by unfold len; rw [if_pos (.inr (.inl c2))]
      rw [e]
      go_wp2
      go_ret
      exact ⟨rfl, rfl⟩
    · by_cases c3 : r < 128
      · have e : len r = 1 := by unfold len; rw [if_neg (by omega), if_pos c3]
        rw [e]
        go_wp2
        go_ret
        exact ⟨rfl, rfl⟩
      · by_cases c4 : r < 2048
        · have e : len r = 2 := by unfold len; rw [if_neg (by omega), if_neg c3, if_pos c4]
          rw [e]
          go_wp2
          go_ret
          exact ⟨rfl, rfl⟩
        · by_cases c5 : 55296 ≤ r
          · by_cases c6 : r ≤ 57343
            · have e : len r = 0 := by unfold len; rw [if_pos (by omega)]
              rw [e]
              go_wp2
              go_ret
              exact ⟨rfl, rfl⟩
            · by_cases c7 : r < 65536
              · have e : len r = 3 := by unfold len; rw [if_neg (by omega), if_neg c3, if_neg c4, if_pos c7]
                rw [e]
                go_wp2
                go_ret
                exact ⟨rfl, rfl⟩
              · have e : len r = 4 := by unfold len; rw [if_neg (by omega), if_neg c3, if_neg c4, if_neg c7]
                rw [e]
                go_wp2
                go_ret
                exact ⟨rfl, rfl⟩
          · have e : len r = 3 := by unfold len; rw [if_neg (by omega), if_neg c3, if_neg c4, if_pos (by omega)]
            rw [e]
            go_wp2
            go_ret
            exact ⟨rfl, rfl⟩

/-- The world after a call that moves at most the draws. -/
def DecRes (s : ByteArray) (w : World) (e : Ending) (w' : World) : Prop :=
  ∃ r : Int, e = .returned (.tuple #[.int .i64 r, .int .i64 (dec s), .int .i64 (if dec s = 0 then 11 else 0)]) ∧ ∃ k, w' = w.drewN k
theorem decRes_no {s : ByteArray} {w w' : World} (h : dec s = 0) (hw : ∃ k, w' = w.drewN k) : DecRes s w (.returned (.tuple #[.int .i64 0, .int .i64 0, .int .i64 11])) w' := by
  refine ⟨0, ?_, hw⟩
  rw [h]; rfl
theorem decRes_yes {s : ByteArray} {w w' : World} {r : Int} {n : Nat} (h : dec s = n) (hn : 0 < n) (hw : ∃ k, w' = w.drewN k) : DecRes s w (.returned (.tuple #[.int .i64 r, .int .i64 n, .int .i64 0])) w' := by
  refine ⟨r, ?_, hw⟩
  rw [h, if_neg (by omega)]


theorem acc_bd {s : ByteArray} {r : Int} (h0 : 0 ≤ r) (h1 : r ≤ 255) : ∀ k, conts s k = true → 0 ≤ acc s r k ∧ acc s r k + 1 ≤ 256 * 64 ^ k
  | 0, _ => by show 0 ≤ r ∧ r + 1 ≤ 256 * 1; omega
  | k + 1, h => by
    simp only [conts, Bool.and_eq_true, Runes.cont_iff] at h
    have := acc_bd h0 h1 k h.1
    have e : acc s r (k + 1) = acc s r k * 64 + (bt s (k + 1) - 128) := rfl
    rw [e, Int.pow_succ]
    omega

theorem and31 : ∀ n : Fin 256, bits BinOp.and IntKind.i64 (n.val : Int) 31 = (n.val : Int) % 32 := by decide +kernel
theorem and15 : ∀ n : Fin 256, bits BinOp.and IntKind.i64 (n.val : Int) 15 = (n.val : Int) % 16 := by decide +kernel
theorem and7 : ∀ n : Fin 256, bits BinOp.and IntKind.i64 (n.val : Int) 7 = (n.val : Int) % 8 := by decide +kernel
theorem and63 : ∀ n : Fin 256, bits BinOp.and IntKind.u8 (n.val : Int) 63 = (n.val : Int) % 64 := by decide +kernel
theorem or_low (a b : Int) (ha : 0 ≤ a) (ha' : a ≤ 67108864) (hb : 0 ≤ b) (hb' : b < 64) : bits BinOp.or IntKind.i64 (a * 64) b = a * 64 + b :=
  bits_join .i64 62 (by decide) (fun n h0 h1 => by rw [IntKind.wrap_i64]; omega) 6 (a * 64) b (by omega) (by omega) (by omega) hb (by omega) (by omega)
theorem acc_succ (s : ByteArray) (r : Int) (k : Nat) : acc s r (k + 1) = acc s r k * 64 + (bt s (k + 1) - 128) := rfl
theorem conts_mono {s : ByteArray} {k m : Nat} (h : k ≤ m) (hk : conts s k = false) : conts s m = false := by
  induction m with
  | zero => obtain rfl : k = 0 := by omega
            exact hk
  | succ m ih =>
    by_cases e : k = m + 1
    · subst e; exact hk
    · simp [conts, ih (by omega)]
theorem dec_of {s : ByteArray} {n : Nat} (h0 : 0 < s.size) (hn : ann (bt s 0) = n) (n0 : n ≠ 0) (n1 : ¬ s.size < n) :
    (conts s (n - 1) = false → dec s = 0) ∧ (conts s (n - 1) = true → len (acc s (fst (bt s 0) n) (n - 1)) ≠ n → dec s = 0) ∧
    (conts s (n - 1) = true → len (acc s (fst (bt s 0) n) (n - 1)) = n → dec s = n) := by
  have e : dec s = if conts s (n - 1) = false then 0 else if len (acc s (fst (bt s 0) n) (n - 1)) = n then n else 0 := by
    unfold dec
    rw [if_neg (by omega), hn, if_neg (by omega)]
  rw [e]
  refine ⟨fun h => by rw [if_pos h], fun h h' => by rw [if_neg (by simp [h]), if_neg h'], fun h h' => by rw [if_neg (by simp [h]), if_pos h']⟩

theorem decodeFn (s : ByteArray) (w : World) (h0 : 0 < s.size) (hm : s.size ≤ 9223372036854775807) : Calls Tryz.prog 43 #[.string s] w (DecRes s w) := by
  have hse : s.toList.isEmpty = false := by
    rw [ByteArray.toList_eq]
    obtain ⟨⟨l⟩⟩ := s
    cases l <;> simp [ByteArray.size] at h0 ⊢
  have hb0 : bt s 0 = ((s[0]'h0).toNat : Int) := bt_lt h0
  have hsi : (0 : Int) < (s.size : Int) := by omega
  have hbd := UInt8.toNat_lt (s[0]'h0)
  obtain ⟨n, hn⟩ : ∃ n, ann (bt s 0) = n := ⟨_, rfl⟩
  have hcall : ∀ W : World, Calls Tryz.prog 74 #[.int .u8 ((s[0]'h0).toNat : Int)] W fun e w' => e = .returned (.int .i64 n) ∧ W = w' := by
    intro W
    rw [← hn, hb0]; exact announcedFn _ W (by omega) (by omega)
  have HC := Lib.hid hcall
  have HB0 := Lib.hid hb0
  have HN := Lib.hid hn
  clear hb0 hn hcall
  by_cases n0 : n = 0
  · have HD : Hid (dec s = 0) := by show _ = _; unfold dec; rw [if_neg (by omega), if_pos (.inl (HN.out.trans n0))]
    subst n0
    go_enter Tryz.func43, Tryz.ntmps43
    go_wp2_with ((with_reducible refine (HC.out _).mono ?_); rintro e w' ⟨rfl, rfl⟩)
    go_ret3
    exact decRes_no HD.out ⟨0, rfl⟩
  · by_cases n1 : s.size < n
    · have HD : Hid (dec s = 0) := by show _ = _; unfold dec; rw [if_neg (by omega), if_pos (.inr (by rw [HN.out]; exact n1))]
      have hni : (s.size : Int) < (n : Int) := by omega
      have hz : ((n : Int) == 0) = false := by simpa using n0
      have hz' : (n : Int) ≠ 0 := by omega
      go_enter Tryz.func43, Tryz.ntmps43
      go_wp2_with ((with_reducible refine (HC.out _).mono ?_); rintro e w' ⟨rfl, rfl⟩)
      go_ret3
      exact decRes_no HD.out ⟨0, rfl⟩
    · have hni : (n : Int) ≤ (s.size : Int) := by omega
      have hz : ((n : Int) == 0) = false := by simpa using n0
      have hn4 : n ≤ 4 := by rw [← HN.out]; unfold ann; (repeat' split) <;> omega
      have HDD := Lib.hid (dec_of h0 HN.out n0 n1)
      obtain rfl | rfl | rfl | rfl : n = 1 ∨ n = 2 ∨ n = 3 ∨ n = 4 := by omega
      · have hann : 0 ≤ bt s 0 ∧ bt s 0 < 128 := by
          have hbb := bt_bd s 0
          have := HN.out; revert this; unfold ann; (repeat' split) <;> intro h <;> omega
        have efst : fst (bt s 0) 1 = bt s 0 - 0 := by show bt s 0 = bt s 0 - 0; omega
        have hand : ((s[0]'h0).toNat : Int) = fst (bt s 0) 1 := by
          rw [← HB0.out, efst]; omega
        have HAND := Lib.hid hand
        clear hand
        have hfb : 0 ≤ fst (bt s 0) 1 ∧ fst (bt s 0) 1 ≤ 255 := by omega
        clear hann efst
        go_enter Tryz.func43, Tryz.ntmps43
        go_wp2_with ((with_reducible refine (HC.out _).mono ?_); rintro e w' ⟨rfl, rfl⟩)
        generalize hr0 : fst (bt s 0) 1 = r0 at *
        have HR0 := Lib.hid hr0
        clear hr0
        have hr0' := hfb.1
        have hr0'' := hfb.2
        clear hfb
        go_loopw [2, 6] (fun r i wr => ∃ k : Nat, k < 1 ∧ i = .int .i64 (k + 1 : Nat) ∧ r = .int .i64 (acc s r0 k) ∧ Hid (conts s k = true) ∧ wr = w) (fun _ i _ => 6 - (intOf i).toNat)
        case atStart => exact ⟨0, by omega, rfl, congrArg _ HAND.out, rfl, rfl⟩
        case round =>
          obtain ⟨k, hk, rfl, rfl, HT, rfl⟩ := hrel
          have hab := acc_bd hr0' hr0'' k HT.out
          have hab1 := hab.1
          have hab2 : acc s r0 k ≤ 67108864 := by
            obtain rfl : k = 0 := by omega
            all_goals (have := hab.2; omega)
          clear hab
          have HA := Lib.hid (acc_succ s r0 k)
          have HAK : Hid (∀ x, acc s r0 k = x → acc s r0 k = x) := fun _ h => h
          generalize hak : acc s r0 k = a at *
          have HAA := Lib.hid hak
          clear hak HAK
          by_cases hlt : k + 1 < 1
          · exact absurd hlt (by omega)
          · obtain rfl : k = 0 := by omega
            have hlf : ∀ W : World, Calls Tryz.prog 76 #[.int .i64 a] W fun e w' => e = .returned (.int .i64 (len a)) ∧ W = w' := fun W => lengthFn a W (by omega) (by omega)
            have HLF := Lib.hid hlf
            clear hlf
            have hd2 := HDD.out.2
            rw [show (1 - 1 : Nat) = 0 from rfl, HAA.out] at hd2
            have HD2 := Lib.hid hd2
            clear hd2
            generalize len a = l at *
            by_cases hl : l = 1
            · have HD : Hid (dec s = 1) := HD2.out.2 HT.out hl
              subst hl
              go_wp2_with ((with_reducible refine (HLF.out _).mono ?_); rintro e w' ⟨rfl, rfl⟩)
              go_ret3
              exact decRes_yes (n := 1) HD.out (by decide) ⟨0, rfl⟩
            · have HD : Hid (dec s = 0) := HD2.out.1 HT.out hl
              have hli : ((l : Int) != 1) = true := by
                have : (l : Int) ≠ 1 := by omega
                simpa using this
              have hli' : (l : Int) ≠ 1 := by omega
              go_wp2_with ((with_reducible refine (HLF.out _).mono ?_); rintro e w' ⟨rfl, rfl⟩)
              go_ret3
              exact decRes_no HD.out ⟨0, rfl⟩
      · have hann : 194 ≤ bt s 0 ∧ bt s 0 < 224 := by
          have hbb := bt_bd s 0
          have := HN.out; revert this; unfold ann; (repeat' split) <;> intro h <;> omega
        have efst : fst (bt s 0) 2 = bt s 0 - 192 := by rfl
        have hand : bits BinOp.and IntKind.i64 ((s[0]'h0).toNat : Int) 31 = fst (bt s 0) 2 := by
          have := and31 ⟨(s[0]'h0).toNat, hbd⟩
          rw [this]
          have := HB0.out
          show ((s[0]'h0).toNat : Int) % 32 = _
          omega
        have hfb : 0 ≤ fst (bt s 0) 2 ∧ fst (bt s 0) 2 ≤ 255 := by omega
        clear hann efst
        go_enter Tryz.func43, Tryz.ntmps43
        go_wp2_with ((with_reducible refine (HC.out _).mono ?_); rintro e w' ⟨rfl, rfl⟩)
        clear hand
        generalize hr0 : fst (bt s 0) 2 = r0 at *
        have HR0 := Lib.hid hr0
        clear hr0
        have hr0' := hfb.1
        have hr0'' := hfb.2
        clear hfb
        go_loopw [2, 6] (fun r i wr => ∃ k : Nat, k < 2 ∧ i = .int .i64 (k + 1 : Nat) ∧ r = .int .i64 (acc s r0 k) ∧ Hid (conts s k = true) ∧ wr = w) (fun _ i _ => 6 - (intOf i).toNat)
        case atStart => exact ⟨0, by omega, rfl, rfl, rfl, rfl⟩
        case round =>
          obtain ⟨k, hk, rfl, rfl, HT, rfl⟩ := hrel
          have hab := acc_bd hr0' hr0'' k HT.out
          have hab1 := hab.1
          have hab2 : acc s r0 k ≤ 67108864 := by
            obtain rfl | rfl : k = 0 ∨ k = 1 := by omega
            all_goals (have := hab.2; omega)
          clear hab
          have HA := Lib.hid (acc_succ s r0 k)
          have HAK : Hid (∀ x, acc s r0 k = x → acc s r0 k = x) := fun _ h => h
          generalize hak : acc s r0 k = a at *
          have HAA := Lib.hid hak
          clear hak HAK
          by_cases hlt : k + 1 < 2
          · have hki : ((k + 1 : Nat) : Int) < 2 := by omega
            have hks : k + 1 < s.size := by omega
            have hksi : ((k + 1 : Nat) : Int) < (s.size : Int) := by omega
            have hbk := UInt8.toNat_lt (s[k + 1]'hks)
            have HBK := Lib.hid (bt_lt hks)
            by_cases hc : cont (bt s (k + 1)) = true
            · have hcf : ∀ W : World, Calls Tryz.prog 75 #[.int .u8 ((s[k + 1]'hks).toNat : Int)] W fun e w' => e = .returned (.bool true) ∧ W = w' := by
                intro W
                have := continuesFn ((s[k + 1]'hks).toNat : Int) W (by omega) (by omega)
                rw [← HBK.out, hc] at this
                rw [← HBK.out]; exact this
              have HCF := Lib.hid hcf
              have HCC := Lib.hid hc
              clear hcf hc
              go_wp2_with ((with_reducible refine (HCF.out _).mono ?_); rintro e w' ⟨rfl, rfl⟩)
              go_roundw
              case rel =>
                have hcb := Runes.cont_iff.1 HCC.out
                refine ⟨k + 1, by omega, by go_num, ?_, ?_, by first | rfl | trivial⟩
                · rw [or_low a _ hab1 hab2 (by omega) (by omega), HA.out]
                  have := HBK.out
                  congr 1
                  omega
                · show conts s (k + 1) = true
                  simp [conts, HT.out, HCC.out]
              case measure => simp [intOf]; omega
            · have hcf : ∀ W : World, Calls Tryz.prog 75 #[.int .u8 ((s[k + 1]'hks).toNat : Int)] W fun e w' => e = .returned (.bool false) ∧ W = w' := by
                intro W
                have hc' : cont (bt s (k + 1)) = false := by simpa using hc
                have := continuesFn ((s[k + 1]'hks).toNat : Int) W (by omega) (by omega)
                rw [← HBK.out, hc'] at this
                rw [← HBK.out]; exact this
              have HCF := Lib.hid hcf
              have HD : Hid (dec s = 0) := by
                refine HDD.out.1 (conts_mono (k := k + 1) (by omega) ?_)
                simp only [conts, HT.out, Bool.true_and]; simpa using hc
              clear hcf hc
              go_wp2_with ((with_reducible refine (HCF.out _).mono ?_); rintro e w' ⟨rfl, rfl⟩)
              go_ret3
              exact decRes_no HD.out ⟨0, rfl⟩
          · obtain rfl : k = 1 := by omega
            have hlf : ∀ W : World, Calls Tryz.prog 76 #[.int .i64 a] W fun e w' => e = .returned (.int .i64 (len a)) ∧ W = w' := fun W => lengthFn a W (by omega) (by omega)
            have HLF := Lib.hid hlf
            clear hlf
            have hd2 := HDD.out.2
            rw [show (2 - 1 : Nat) = 1 from rfl, HAA.out] at hd2
            have HD2 := Lib.hid hd2
            clear hd2
            generalize len a = l at *
            by_cases hl : l = 2
            · have HD : Hid (dec s = 2) := HD2.out.2 HT.out hl
              subst hl
              go_wp2_with ((with_reducible refine (HLF.out _).mono ?_); rintro e w' ⟨rfl, rfl⟩)
              go_ret3
              exact decRes_yes (n := 2) HD.out (by decide) ⟨0, rfl⟩
            · have HD : Hid (dec s = 0) := HD2.out.1 HT.out hl
              have hli : ((l : Int) != 2) = true := by
                have : (l : Int) ≠ 2 := by omega
                simpa using this
              have hli' : (l : Int) ≠ 2 := by omega
              go_wp2_with ((with_reducible refine (HLF.out _).mono ?_); rintro e w' ⟨rfl, rfl⟩)
              go_ret3
              exact decRes_no HD.out ⟨0, rfl⟩
      · have hann : 224 ≤ bt s 0 ∧ bt s 0 < 240 := by
          have hbb := bt_bd s 0
          have := HN.out; revert this; unfold ann; (repeat' split) <;> intro h <;> omega
        have efst : fst (bt s 0) 3 = bt s 0 - 224 := by rfl
        have hand : bits BinOp.and IntKind.i64 ((s[0]'h0).toNat : Int) 15 = fst (bt s 0) 3 := by
          have := and15 ⟨(s[0]'h0).toNat, hbd⟩
          rw [this]
          have := HB0.out
          show ((s[0]'h0).toNat : Int) % 16 = _
          omega
        have hfb : 0 ≤ fst (bt s 0) 3 ∧ fst (bt s 0) 3 ≤ 255 := by omega
        clear hann efst
        go_enter Tryz.func43, Tryz.ntmps43
        go_wp2_with ((with_reducible refine (HC.out _).mono ?_); rintro e w' ⟨rfl, rfl⟩)
        clear hand
        generalize hr0 : fst (bt s 0) 3 = r0 at *
        have HR0 := Lib.hid hr0
        clear hr0
        have hr0' := hfb.1
        have hr0'' := hfb.2
        clear hfb
        go_loopw [2, 6] (fun r i wr => ∃ k : Nat, k < 3 ∧ i = .int .i64 (k + 1 : Nat) ∧ r = .int .i64 (acc s r0 k) ∧ Hid (conts s k = true) ∧ wr = w) (fun _ i _ => 6 - (intOf i).toNat)
        case atStart => exact ⟨0, by omega, rfl, rfl, rfl, rfl⟩
        case round =>
          obtain ⟨k, hk, rfl, rfl, HT, rfl⟩ := hrel
          have hab := acc_bd hr0' hr0'' k HT.out
          have hab1 := hab.1
          have hab2 : acc s r0 k ≤ 67108864 := by
            obtain rfl | rfl | rfl : k = 0 ∨ k = 1 ∨ k = 2 := by omega
            all_goals (have := hab.2; omega)
          clear hab
          have HA := Lib.hid (acc_succ s r0 k)
          have HAK : Hid (∀ x, acc s r0 k = x → acc s r0 k = x) := fun _ h => h
          generalize hak : acc s r0 k = a at *
          have HAA := Lib.hid hak
          clear hak HAK
          by_cases hlt : k + 1 < 3
          · have hki : ((k + 1 : Nat) : Int) < 3 := by omega
            have hks : k + 1 < s.size := by omega
            have hksi : ((k + 1 : Nat) : Int) < (s.size : Int) := by omega
            have hbk := UInt8.toNat_lt (s[k + 1]'hks)
            have HBK := Lib.hid (bt_lt hks)
            by_cases hc : cont (bt s (k + 1)) = true
            · have hcf : ∀ W : World, Calls Tryz.prog 75 #[.int .u8 ((s[k + 1]'hks).toNat : Int)] W fun e w' => e = .returned (.bool true) ∧ W = w' := by
                intro W
                have := continuesFn ((s[k + 1]'hks).toNat : Int) W (by omega) (by omega)
                rw [← HBK.out, hc] at this
                rw [← HBK.out]; exact this
              have HCF := Lib.hid hcf
              have HCC := Lib.hid hc
              clear hcf hc
              go_wp2_with ((with_reducible refine (HCF.out _).mono ?_); rintro e w' ⟨rfl, rfl⟩)
              go_roundw
              case rel =>
                have hcb := Runes.cont_iff.1 HCC.out
                refine ⟨k + 1, by omega, by go_num, ?_, ?_, by first | rfl | trivial⟩
                · rw [or_low a _ hab1 hab2 (by omega) (by omega), HA.out]
                  have := HBK.out
                  congr 1
                  omega
                · show conts s (k + 1) = true
                  simp [conts, HT.out, HCC.out]
              case measure => simp [intOf]; omega
            · have hcf : ∀ W : World, Calls Tryz.prog 75 #[.int .u8 ((s[k + 1]'hks).toNat : Int)] W fun e w' => e = .returned (.bool false) ∧ W = w' := by
                intro W
                have hc' : cont (bt s (k + 1)) = false := by simpa using hc
                have := continuesFn ((s[k + 1]'hks).toNat : Int) W (by omega) (by omega)
                rw [← HBK.out, hc'] at this
                rw [← HBK.out]; exact this
              have HCF := Lib.hid hcf
              have HD : Hid (dec s = 0) := by
                refine HDD.out.1 (conts_mono (k := k + 1) (by omega) ?_)
                simp only [conts, HT.out, Bool.true_and]; simpa using hc
              clear hcf hc
              go_wp2_with ((with_reducible refine (HCF.out _).mono ?_); rintro e w' ⟨rfl, rfl⟩)
              go_ret3
              exact decRes_no HD.out ⟨0, rfl⟩
          · obtain rfl : k = 2 := by omega
            have hlf : ∀ W : World, Calls Tryz.prog 76 #[.int .i64 a] W fun e w' => e = .returned (.int .i64 (len a)) ∧ W = w' := fun W => lengthFn a W (by omega) (by omega)
            have HLF := Lib.hid hlf
            clear hlf
            have hd2 := HDD.out.2
            rw [show (3 - 1 : Nat) = 2 from rfl, HAA.out] at hd2
            have HD2 := Lib.hid hd2
            clear hd2
            generalize len a = l at *
            by_cases hl : l = 3
            · have HD : Hid (dec s = 3) := HD2.out.2 HT.out hl
              subst hl
              go_wp2_with ((with_reducible refine (HLF.out _).mono ?_); rintro e w' ⟨rfl, rfl⟩)
              go_ret3
              exact decRes_yes (n := 3) HD.out (by decide) ⟨0, rfl⟩
            · have HD : Hid (dec s = 0) := HD2.out.1 HT.out hl
              have hli : ((l : Int) != 3) = true := by
                have : (l : Int) ≠ 3 := by omega
                simpa using this
              have hli' : (l : Int) ≠ 3 := by omega
              go_wp2_with ((with_reducible refine (HLF.out _).mono ?_); rintro e w' ⟨rfl, rfl⟩)
              go_ret3
              exact decRes_no HD.out ⟨0, rfl⟩
      · have hann : 240 ≤ bt s 0 ∧ bt s 0 < 245 := by
          have hbb := bt_bd s 0
          have := HN.out; revert this; unfold ann; (repeat' split) <;> intro h <;> omega
        have efst : fst (bt s 0) 4 = bt s 0 - 240 := by rfl
        have hand : bits BinOp.and IntKind.i64 ((s[0]'h0).toNat : Int) 7 = fst (bt s 0) 4 := by
          have := and7 ⟨(s[0]'h0).toNat, hbd⟩
          rw [this]
          have := HB0.out
          show ((s[0]'h0).toNat : Int) % 8 = _
          omega
        have hfb : 0 ≤ fst (bt s 0) 4 ∧ fst (bt s 0) 4 ≤ 255 := by omega
        clear hann efst
        go_enter Tryz.func43, Tryz.ntmps43
        go_wp2_with ((with_reducible refine (HC.out _).mono ?_); rintro e w' ⟨rfl, rfl⟩)
        clear hand
        generalize hr0 : fst (bt s 0) 4 = r0 at *
        have HR0 := Lib.hid hr0
        clear hr0
        have hr0' := hfb.1
        have hr0'' := hfb.2
        clear hfb
        go_loopw [2, 6] (fun r i wr => ∃ k : Nat, k < 4 ∧ i = .int .i64 (k + 1 : Nat) ∧ r = .int .i64 (acc s r0 k) ∧ Hid (conts s k = true) ∧ wr = w) (fun _ i _ => 6 - (intOf i).toNat)
        case atStart => exact ⟨0, by omega, rfl, rfl, rfl, rfl⟩
        case round =>
          obtain ⟨k, hk, rfl, rfl, HT, rfl⟩ := hrel
          have hab := acc_bd hr0' hr0'' k HT.out
          have hab1 := hab.1
          have hab2 : acc s r0 k ≤ 67108864 := by
            obtain rfl | rfl | rfl | rfl : k = 0 ∨ k = 1 ∨ k = 2 ∨ k = 3 := by omega
            all_goals (have := hab.2; omega)
          clear hab
          have HA := Lib.hid (acc_succ s r0 k)
          have HAK : Hid (∀ x, acc s r0 k = x → acc s r0 k = x) := fun _ h => h
          generalize hak : acc s r0 k = a at *
          have HAA := Lib.hid hak
          clear hak HAK
          by_cases hlt : k + 1 < 4
          · have hki : ((k + 1 : Nat) : Int) < 4 := by omega
            have hks : k + 1 < s.size := by omega
            have hksi : ((k + 1 : Nat) : Int) < (s.size : Int) := by omega
            have hbk := UInt8.toNat_lt (s[k + 1]'hks)
            have HBK := Lib.hid (bt_lt hks)
            by_cases hc : cont (bt s (k + 1)) = true
            · have hcf : ∀ W : World, Calls Tryz.prog 75 #[.int .u8 ((s[k + 1]'hks).toNat : Int)] W fun e w' => e = .returned (.bool true) ∧ W = w' := by
                intro W
                have := continuesFn ((s[k + 1]'hks).toNat : Int) W (by omega) (by omega)
                rw [← HBK.out, hc] at this
                rw [← HBK.out]; exact this
              have HCF := Lib.hid hcf
              have HCC := Lib.hid hc
              clear hcf hc
              go_wp2_with ((with_reducible refine (HCF.out _).mono ?_); rintro e w' ⟨rfl, rfl⟩)
              go_roundw
              case rel =>
                have hcb := Runes.cont_iff.1 HCC.out
                refine ⟨k + 1, by omega, by go_num, ?_, ?_, by first | rfl | trivial⟩
                · rw [or_low a _ hab1 hab2 (by omega) (by omega), HA.out]
                  have := HBK.out
                  congr 1
                  omega
                · show conts s (k + 1) = true
                  simp [conts, HT.out, HCC.out]
              case measure => simp [intOf]; omega
            · have hcf : ∀ W : World, Calls Tryz.prog 75 #[.int .u8 ((s[k + 1]'hks).toNat : Int)] W fun e w' => e = .returned (.bool false) ∧ W = w' := by
                intro W
                have hc' : cont (bt s (k + 1)) = false := by simpa using hc
                have := continuesFn ((s[k + 1]'hks).toNat : Int) W (by omega) (by omega)
                rw [← HBK.out, hc'] at this
                rw [← HBK.out]; exact this
              have HCF := Lib.hid hcf
              have HD : Hid (dec s = 0) := by
                refine HDD.out.1 (conts_mono (k := k + 1) (by omega) ?_)
                simp only [conts, HT.out, Bool.true_and]; simpa using hc
              clear hcf hc
              go_wp2_with ((with_reducible refine (HCF.out _).mono ?_); rintro e w' ⟨rfl, rfl⟩)
              go_ret3
              exact decRes_no HD.out ⟨0, rfl⟩
          · obtain rfl : k = 3 := by omega
            have hlf : ∀ W : World, Calls Tryz.prog 76 #[.int .i64 a] W fun e w' => e = .returned (.int .i64 (len a)) ∧ W = w' := fun W => lengthFn a W (by omega) (by omega)
            have HLF := Lib.hid hlf
            clear hlf
            have hd2 := HDD.out.2
            rw [show (4 - 1 : Nat) = 3 from rfl, HAA.out] at hd2
            have HD2 := Lib.hid hd2
            clear hd2
            generalize len a = l at *
            by_cases hl : l = 4
            · have HD : Hid (dec s = 4) := HD2.out.2 HT.out hl
              subst hl
              go_wp2_with ((with_reducible refine (HLF.out _).mono ?_); rintro e w' ⟨rfl, rfl⟩)
              go_ret3
              exact decRes_yes (n := 4) HD.out (by decide) ⟨0, rfl⟩
            · have HD : Hid (dec s = 0) := HD2.out.1 HT.out hl
              have hli : ((l : Int) != 4) = true := by
                have : (l : Int) ≠ 4 := by omega
                simpa using this
              have hli' : (l : Int) ≠ 4 := by omega
              go_wp2_with ((with_reducible refine (HLF.out _).mono ?_); rintro e w' ⟨rfl, rfl⟩)
              go_ret3
              exact decRes_no HD.out ⟨0, rfl⟩

theorem isEmpty_of (s : ByteArray) : s.toList.isEmpty = decide (s.size = 0) := by
  rw [ByteArray.toList_eq]
  obtain ⟨⟨l⟩⟩ := s
  cases l <;> simp [ByteArray.size]
theorem extract_all (s : ByteArray) : s = s.extract 0 s.size := by simp
theorem extract_more (s : ByteArray) (k n : Nat) : (s.extract k s.size).extract n (s.size - k) = s.extract (k + n) s.size := by
  rw [ByteArray.extract_extract]
  congr 1
  omega
def strSize : Value → Nat
  | .string t => t.size
  | _ => 0

theorem validFn (s : ByteArray) (b : Bool) (w : World) (hm : s.size ≤ 9223372036854775807) (hv : Runes.VF s 0 b) :
    Calls Tryz.prog 28 #[.string s] w (fun e w' => e = .returned (.bool b) ∧ ∃ k, w' = w.drewN k) := by
  have HS := Lib.hid (extract_all s)
  have HV := Lib.hid hv
  clear hv
  go_enter Tryz.func28, Tryz.ntmps28
  go_wp2
  go_loopw [0, 3, 4, 5] (fun v _ _ _ wr => ∃ (t : ByteArray) (k : Nat), v = .string t ∧ k ≤ s.size ∧ Hid (t = s.extract k s.size) ∧ Hid (Runes.VF s k b) ∧ Hid (∃ m, wr = w.drewN m)) (fun v _ _ _ _ => strSize v)
  case atStart => exact ⟨s, 0, rfl, by omega, HS, HV, 0, rfl⟩
  case round =>
    obtain ⟨t, k, rfl, hk, HT, HK, HW⟩ := hrel
    have hts : t.size = s.size - k := by rw [HT.out]; simp
    by_cases h0 : t.size = 0
    · have hte : t.toList.isEmpty = true := by rw [isEmpty_of, decide_eq_true_eq]; exact h0
      have HB : Hid (b = true) := HK.out.stop (by omega)
      go_wp2
      go_ret
      exact ⟨by rw [HB.out]; rfl, HW.out⟩
    · have hte : t.toList.isEmpty = false := by rw [isEmpty_of, decide_eq_false_iff_not]; exact h0
      have hd := decodeFn t
      have HD := Lib.hid hd
      clear hd
      by_cases hz : dec t = 0
      · have HB : Hid (b = false) := HK.out.fail (by omega) (by rw [← HT.out]; exact hz)
        have HZ := Lib.hid hz
        clear hz
        go_wp2_with ((with_reducible refine (HD.out _ (by omega) (by omega)).mono ?_); rintro e w' ⟨r, rfl, m', rfl⟩; rw [HZ.out])
        go_ret
        refine ⟨by rw [HB.out]; rfl, ?_⟩
        obtain ⟨m, rfl⟩ := HW.out
        exact ⟨_, World.drewN_drewN _ _ _⟩
      · have hle := Runes.dec_le t
        have HN : Hid (Runes.VF s (k + dec t) b) := HK.out.next (by omega) (by rw [← HT.out]) (by omega)
        have hc : ∀ W : World, Calls Tryz.prog 43 #[.string t] W fun e w' => ∃ r, e = .returned (.tuple #[.int .i64 r, .int .i64 (dec t), .int .i64 0]) ∧ ∃ k, w' = W.drewN k := fun W =>
          (HD.out W (by omega) (by omega)).mono fun e w' ⟨r, he, hw⟩ => ⟨r, by rw [he, if_neg hz], hw⟩
        have HC := Lib.hid hc
        clear hc
        generalize hn : dec t = n at *
        clear hn
        have hni : (n : Int) ≤ (t.size : Int) := by omega
        go_wp2_with ((with_reducible refine (HC.out _).mono ?_); rintro e w' ⟨r, rfl, m', rfl⟩)
        go_roundw
        case rel =>
          refine ⟨_, k + n, rfl, by omega, ?_, HN, ?_⟩
          · show _ = _
            have := HT.out
            subst this
            simp only [ByteArray.size_extract, Nat.min_self] at *
            first | exact extract_more s k n | (simp only [Int.toNat_natCast]; exact extract_more s k n)
          · obtain ⟨m, rfl⟩ := HW.out
            exact ⟨_, World.drewN_drewN _ _ _⟩
        case measure => simp [strSize]; omega
end Go.Proofs.YtbjadgggpkbjmaaGreat
namespace Go.Proofs.YtbjadgggpkbjmaaGreat
open Go.RowKit
/-- In the limits of the document. -/
def CfgIn (c : CfgV) : Prop :=
  ((1 ≤ c.slots ∧ c.slots ≤ 16384) ∧ (1 ≤ c.gens ∧ c.gens ≤ 4294967295)) ∧ ((0 ≤ c.clients ∧ c.clients ≤ 8) ∧ (0 ≤ c.readers ∧ c.readers ≤ 8)) ∧ ((1 ≤ c.queue ∧ c.queue ≤ 64) ∧ (1 ≤ c.batch ∧ c.batch ≤ 16) ∧ (1 ≤ c.feed ∧ c.feed ≤ 64))
noncomputable def cfgErr (c : CfgV) : Int := open Classical in if CfgIn c then if 65536 < c.text.size then 5 else if Runes.valid c.text then 0 else 11 else 2

theorem withinFn (n a b : Int) (w : World) : Calls Tryz.prog 27 #[.int .i64 n, .int .i64 a, .int .i64 b] w fun e w' => e = .returned (.bool (decide (a ≤ n ∧ n ≤ b))) ∧ w = w' := by
  by_cases h : a ≤ n
  · by_cases h2 : n ≤ b
    · rw [decide_eq_true ⟨h, h2⟩]
      go_enter Tryz.func27, Tryz.ntmps27
      go_wp2
      go_ret
      exact ⟨rfl, rfl⟩
    · rw [decide_eq_false (show ¬ (a ≤ n ∧ n ≤ b) by omega)]
      go_enter Tryz.func27, Tryz.ntmps27
      go_wp2
      go_ret
      exact ⟨rfl, rfl⟩
  · rw [decide_eq_false (show ¬ (a ≤ n ∧ n ≤ b) by omega)]
    go_enter Tryz.func27, Tryz.ntmps27
    go_wp2
    go_ret
    exact ⟨rfl, rfl⟩
theorem within_split {n a b : Int} {w : World} {Q : Ending → World → Prop} (h1 : a ≤ n → n ≤ b → Q (.returned (.bool true)) w) (h2 : ¬ (a ≤ n ∧ n ≤ b) → Q (.returned (.bool false)) w) :
    Calls Tryz.prog 27 #[.int .i64 n, .int .i64 a, .int .i64 b] w Q := by
  refine (withinFn n a b w).mono fun e w' h => ?_
  obtain ⟨he, hw⟩ := h
  subst he; subst hw
  by_cases h : a ≤ n ∧ n ≤ b
  · rw [decide_eq_true h]; exact h1 h.1 h.2
  · rw [decide_eq_false h]; exact h2 h

def CheckRes (k : Int) (w : World) (e : Ending) (w' : World) : Prop := e = .returned (.int .i64 k) ∧ Below w.heap.size w w'
section
variable {c : CfgV} {w w' : World}
theorem check_out (h : ¬ CfgIn c) (hw : Below w.heap.size w w') : CheckRes (cfgErr c) w (.returned (.int .i64 2)) w' := ⟨by unfold cfgErr; rw [if_neg h], hw⟩
theorem check_long (h : CfgIn c) (hl : 65536 < c.text.size) (hw : Below w.heap.size w w') : CheckRes (cfgErr c) w (.returned (.int .i64 5)) w' := ⟨by unfold cfgErr; rw [if_pos h, if_pos hl], hw⟩
theorem check_ok (h : CfgIn c) (hl : ¬ 65536 < c.text.size) (hv : Runes.valid c.text = true) (hw : Below w.heap.size w w') : CheckRes (cfgErr c) w (.returned (.int .i64 0)) w' := ⟨by unfold cfgErr; rw [if_pos h, if_neg hl, if_pos hv], hw⟩
theorem check_utf (h : CfgIn c) (hl : ¬ 65536 < c.text.size) (hv : Runes.valid c.text = false) (hw : Below w.heap.size w w') : CheckRes (cfgErr c) w (.returned (.int .i64 11)) w' := ⟨by unfold cfgErr; rw [if_pos h, if_neg hl, if_neg (by simp [hv])], hw⟩
end
theorem below_box (w : World) (o : Obj) : Below w.heap.size w (w.alloc o) := (Below.refl _ _).alloc (Nat.le_refl _) o

theorem checkFn (x0 x1 x2 x3 x4 x5 x6 : Int) (x7 : ByteArray) (w : World) (hm : x7.size ≤ 9223372036854775807) :
    Calls Tryz.prog 16 #[cfgVal ⟨x0, x1, x2, x3, x4, x5, x6, x7⟩] w (CheckRes (cfgErr ⟨x0, x1, x2, x3, x4, x5, x6, x7⟩) w) := by
  have HV := Lib.hid (validFn x7 (Runes.valid x7))
  have hsp := Runes.valid_spec x7
  have HS := Lib.hid hsp
  clear hsp
  have HB := Lib.hid (below_box w)
  generalize hvx : Runes.valid x7 = vx at *
  have HX := Lib.hid hvx
  clear hvx
  go_enter Tryz.func16, Tryz.ntmps16
  go_wp2_with (first | ((with_reducible refine within_split ?_ ?_) <;> intros) | ((with_reducible refine (HV.out _ (by omega) HS.out).mono ?_); rintro e w' ⟨rfl, k, rfl⟩))
  all_goals go_ret
  all_goals first
    | exact check_out (by show ¬ (((1 ≤ x0 ∧ x0 ≤ 16384) ∧ (1 ≤ x1 ∧ x1 ≤ 4294967295)) ∧ ((0 ≤ x2 ∧ x2 ≤ 8) ∧ (0 ≤ x3 ∧ x3 ≤ 8)) ∧ ((1 ≤ x4 ∧ x4 ≤ 64) ∧ (1 ≤ x5 ∧ x5 ≤ 16) ∧ (1 ≤ x6 ∧ x6 ≤ 64))); omega) (HB.out _)
    | (have hin : CfgIn ⟨x0, x1, x2, x3, x4, x5, x6, x7⟩ := by show ((1 ≤ x0 ∧ x0 ≤ 16384) ∧ (1 ≤ x1 ∧ x1 ≤ 4294967295)) ∧ ((0 ≤ x2 ∧ x2 ≤ 8) ∧ (0 ≤ x3 ∧ x3 ≤ 8)) ∧ ((1 ≤ x4 ∧ x4 ≤ 64) ∧ (1 ≤ x5 ∧ x5 ≤ 16) ∧ (1 ≤ x6 ∧ x6 ≤ 64)); omega
       first
       | exact check_long hin (by show 65536 < x7.size; omega) (HB.out _)
       | (have hle : ¬ 65536 < x7.size := by omega
          first
          | exact check_ok hin hle (HX.out.trans (by cases vx <;> simp_all)) (below_drewN (HB.out _) _)
          | exact check_utf hin hle (HX.out.trans (by cases vx <;> simp_all)) (below_drewN (HB.out _) _)))
end Go.Proofs.YtbjadgggpkbjmaaGreat
namespace Go.Proofs.YtbjadgggpkbjmaaGreat.Runes
/-- The string of these bytes. -/
def bs (l : List Int) : ByteArray := ⟨(l.map fun i => UInt8.ofNat i.toNat).toArray⟩
theorem bs_inj : ∀ (l l' : List Int), (∀ x ∈ l, 0 ≤ x ∧ x < 256) → (∀ x ∈ l', 0 ≤ x ∧ x < 256) → bs l = bs l' → l = l' := by
  intro l l' h h' e
  have e1 : l.map (fun i => UInt8.ofNat i.toNat) = l'.map (fun i => UInt8.ofNat i.toNat) := by
    have := congrArg (fun b : ByteArray => b.data.toList) e
    simpa [bs] using this
  clear e
  induction l generalizing l' with
  | nil => cases l' with
    | nil => rfl
    | cons a t => simp at e1
  | cons a t ih => cases l' with
    | nil => simp at e1
    | cons b u =>
      simp only [List.map_cons, List.cons.injEq] at e1
      have ha := h a (by simp)
      have hb := h' b (by simp)
      have e2 := congrArg UInt8.toNat e1.1
      simp only [UInt8.toNat_ofNat'] at e2
      have : a = b := by omega
      rw [this, ih u (fun x hx => h x (by simp [hx])) (fun x hx => h' x (by simp [hx])) e1.2]
theorem extract_bs {s : ByteArray} {n : Nat} (h : n ≤ s.size) : s.extract 0 n = bs ((List.range n).map (bt s)) := by
  apply ByteArray.ext
  apply Array.ext
  · simp [bs]; omega
  · intro i h1 h2
    have hi : i < n := by simpa [bs] using h2
    have his : i < s.size := by omega
    simp [bs, bt_lt his]
    rfl
theorem enc_bd {r : Int} : ∀ x ∈ enc r, 0 ≤ x ∧ x < 256 := by
  unfold enc
  split
  · simp
  · rename_i h
    have hr : 0 ≤ r ∧ r ≤ 1114111 := by
      refine Classical.byContradiction fun hn => h ?_
      unfold len; rw [if_pos (by omega)]
    (repeat' split) <;> (simp only [List.mem_cons, List.not_mem_nil, or_false, forall_eq_or_imp, forall_eq]; omega)
theorem bts_bd {s : ByteArray} {n : Nat} : ∀ x ∈ (List.range n).map (bt s), 0 ≤ x ∧ x < 256 := by
  intro x hx
  obtain ⟨i, _, rfl⟩ := List.mem_map.1 hx
  have := bt_bd s i
  omega
theorem enc_eq {s : ByteArray} {n : Nat} {r : Int} (h : n ≤ s.size) : bs (enc r) = s.extract 0 n ↔ enc r = (List.range n).map (bt s) := by
  rw [extract_bs h]
  exact ⟨fun e => bs_inj _ _ enc_bd bts_bd e, fun e => by rw [e]⟩
end Go.Proofs.YtbjadgggpkbjmaaGreat.Runes
namespace Go.Proofs.YtbjadgggpkbjmaaGreat
open Go.RowKit
open Runes (ann ann' cont fst acc conts len dec dec' bt bt_lt bt_ge bt_bd enc enc_bd bs)

/-- What Encode hands back: the bytes of a rune, or an error. -/
def EncRes (r : Int) (w : World) (e : Ending) (w' : World) : Prop :=
  (len r = 0 → ∃ t, e = .returned (.tuple #[.string t, .int .i64 2])) ∧ (len r ≠ 0 → e = .returned (.tuple #[.string (bs (enc r)), .int .i64 0])) ∧ Below w.heap.size w w'
theorem und59 : Tryz.prog.underlying 35 = some (.slice 5) := by kernel_rfl
theorem und5 : Tryz.prog.underlying 5 = some (.int .u8) := by kernel_rfl
theorem und9 : Tryz.prog.underlying 9 = some .string := by kernel_rfl
theorem conv_bytes (w : World) (l : List Int) (hl : ∀ x ∈ l, 0 ≤ x ∧ x < 256) (c : Nat) :
    (convert 35 9 (.slice (some ⟨w.heap.size, 0, none⟩) l.length c)).run Tryz.prog (w.alloc (.cells (l.map (Value.int .u8)).toArray 5)) = .ok (.string (bs l)) (w.alloc (.cells (l.map (Value.int .u8)).toArray 5)) := by
  have := run_convert_bytes_back (P := Tryz.prog) (w.alloc (.cells (l.map (Value.int .u8)).toArray 5)) 35 9 5 ⟨w.heap.size, 0, none⟩ c (l.map fun i => UInt8.ofNat i.toNat) und59 und5 und9 (by
    intro j hj
    have hj' : j < l.length := by simpa using hj
    have hx := hl l[j] (List.getElem_mem hj')
    simp only [List.getElem_map, UInt8.toNat_ofNat']
    have e : ((l[j].toNat % 2 ^ 8 : Nat) : Int) = l[j] := by omega
    rw [e]
    have hadd : (⟨w.heap.size, 0, none⟩ : Addr).add j = ⟨w.heap.size, j, none⟩ := by unfold Addr.add; by_cases h0 : j = 0 <;> simp [h0]
    rw [hadd]
    have hb : (w.alloc (.cells (l.map (Value.int .u8)).toArray 5)).heap[w.heap.size]? = some (.cells (l.map (Value.int .u8)).toArray 5) := heap_alloc_new w _
    unfold World.cell?
    rw [hb]
    simp [hj'])
  simpa [bs] using this
end Go.Proofs.YtbjadgggpkbjmaaGreat
namespace Go.Proofs.YtbjadgggpkbjmaaGreat
open Go.RowKit
open Runes (ann ann' cont fst acc conts len dec dec' bt bt_lt bt_ge bt_bd enc bs)
theorem dec'_of {s : ByteArray} {n : Nat} (h0 : 0 < s.size) (hn : ann' (bt s 0) = n) :
    (conts s (n - 1) = false → dec s = 0) ∧ (conts s (n - 1) = true → len (acc s (fst (bt s 0) n) (n - 1)) = 0 → dec s = 0) ∧
    (conts s (n - 1) = true → len (acc s (fst (bt s 0) n) (n - 1)) ≠ 0 → bs (enc (acc s (fst (bt s 0) n) (n - 1))) ≠ s.extract 0 n → dec s = 0) ∧
    (conts s (n - 1) = true → len (acc s (fst (bt s 0) n) (n - 1)) ≠ 0 → bs (enc (acc s (fst (bt s 0) n) (n - 1))) = s.extract 0 n → dec s = n) := by
  rw [Runes.dec_eq]
  have e : dec' s = if conts s (n - 1) = false then 0 else if len (acc s (fst (bt s 0) n) (n - 1)) = 0 then 0 else if enc (acc s (fst (bt s 0) n) (n - 1)) = (List.range n).map (bt s) then n else 0 := by
    unfold dec'
    rw [if_neg (by omega), hn]
  have hsz : conts s (n - 1) = true → n ≤ s.size := fun h => by
    have := Runes.conts_size h h0
    omega
  rw [e]
  refine ⟨fun h => by rw [if_pos h], fun h h' => by rw [if_neg (by simp [h]), if_pos h'], fun h h' h'' => ?_, fun h h' h'' => ?_⟩
  · rw [if_neg (by simp [h]), if_neg h', if_neg (fun he => h'' ((Runes.enc_eq (hsz h)).2 he))]
  · rw [if_neg (by simp [h]), if_neg h', if_pos ((Runes.enc_eq (hsz h)).1 h'')]
def DecRef (s : ByteArray) (w : World) (e : Ending) (w' : World) : Prop :=
  ∃ r : Int, e = .returned (.tuple #[.int .i64 r, .int .i64 (dec s), .int .i64 (if dec s = 0 then 11 else 0)]) ∧ Below w.heap.size w w'
theorem decRef_no {s : ByteArray} {w w' : World} (h : dec s = 0) (hw : Below w.heap.size w w') : DecRef s w (.returned (.tuple #[.int .i64 0, .int .i64 0, .int .i64 11])) w' := by
  refine ⟨0, ?_, hw⟩
  rw [h]; rfl
theorem decRef_yes {s : ByteArray} {w w' : World} {r : Int} {n : Nat} (h : dec s = n) (hn : 0 < n) (hw : Below w.heap.size w w') : DecRef s w (.returned (.tuple #[.int .i64 r, .int .i64 n, .int .i64 0])) w' := by
  refine ⟨r, ?_, hw⟩
  rw [h, if_neg (by omega)]
end Go.Proofs.YtbjadgggpkbjmaaGreat
namespace Go.Proofs.YtbjadgggpkbjmaaGreat
open Go.RowKit
open Runes (dec)
theorem below_then {B : Nat} {a b c : World} (h : Below B a b) (hB : B ≤ b.heap.size) (k : Below b.heap.size b c) : Below B a c := h.trans (k.mono hB)
end Go.Proofs.YtbjadgggpkbjmaaGreat
