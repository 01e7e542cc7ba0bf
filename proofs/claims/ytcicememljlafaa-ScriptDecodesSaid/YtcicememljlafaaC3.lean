/- The reference's runes: Cont, Rune, Encode, Decode, Valid; its Check of a configuration. -/
import Derived.Test.YtcicememljlafaaC2
import Derived.Laws.IdiomStrings
namespace Go.Proofs.Ytcicememljlafaa.Runes
/-- The string of these bytes. -/
def bs (l : List Int) : ByteArray := ⟨(l.map fun i => UInt8.ofNat i.toNat).toArray⟩
theorem bs_inj : ∀ (l l' : List Int), (∀ x ∈ l, 0 ≤ x ∧ x < 256) → (∀ x ∈ l', 0 ≤ x ∧ x < 256) → bs l = bs l' → l = l' := by
  intro l l' h h' e
  have e1 : l.map (fun i => UInt8.ofNat i.toNat) = l'.map (fun i => UInt8.ofNat i.toNat) := by
    have := congrArg (fun b : ByteArray => b.data.toList) e
    simpa [bs] using this
  clear e
  induction l generalizing l' with
  | nil => cases l' with
    | nil => rfl
    | cons a t => simp at e1
  | cons a t ih => cases l' with
    | nil => simp at e1
    | cons b u =>
      simp only [List.map_cons, List.cons.injEq] at e1
      have ha := h a (by simp)
      have hb := h' b (by simp)
      have e2 := congrArg UInt8.toNat e1.1
      simp only [UInt8.toNat_ofNat'] at e2
      have : a = b := by omega
      rw [this, ih u (fun x hx => h x (by simp [hx])) (fun x hx => h' x (by simp [hx])) e1.2]
theorem extract_bs {s : ByteArray} {n : Nat} (h : n ≤ s.size) : s.extract 0 n = bs ((List.range n).map (bt s)) := by
  apply ByteArray.ext
  apply Array.ext
  · simp [bs]; omega
  · intro i h1 h2
    have hi : i < n := by simpa [bs] using h2
    have his : i < s.size := by omega
    simp [bs, bt_lt his]
    rfl
theorem enc_bd {r : Int} : ∀ x ∈ enc r, 0 ≤ x ∧ x < 256 := by
  unfold enc
  split
  · simp
  · rename_i h
    have hr : 0 ≤ r ∧ r ≤ 1114111 := by
      refine Classical.byContradiction fun hn => h ?_
      unfold len; rw [if_pos (by omega)]
    (repeat' split) <;> (simp only [List.mem_cons, List.not_mem_nil, or_false, forall_eq_or_imp, forall_eq]; omega)
theorem bts_bd {s : ByteArray} {n : Nat} : ∀ x ∈ (List.range n).map (bt s), 0 ≤ x ∧ x < 256 := by
  intro x hx
  obtain ⟨i, _, rfl⟩ := List.mem_map.1 hx
  have := bt_bd s i
  omega
theorem enc_eq {s : ByteArray} {n : Nat} {r : Int} (h : n ≤ s.size) : bs (enc r) = s.extract 0 n ↔ enc r = (List.range n).map (bt s) := by
  rw [extract_bs h]
  exact ⟨fun e => bs_inj _ _ enc_bd bts_bd e, fun e => by rw [e]⟩
end Go.Proofs.Ytcicememljlafaa.Runes
namespace Go.Proofs.Ytcicememljlafaa
open Go.RowKit
open Runes (ann ann' cont fst acc conts len dec dec' bt bt_lt bt_ge bt_bd enc enc_bd bs)

theorem contFn (b : Int) (w : World) (h0 : 0 ≤ b) (h1 : b ≤ 255) : Calls Try.prog 64 #[.int .u8 b] w fun e w' => e = .returned (.bool (cont b)) ∧ w = w' := by
  go_enter Try.func64, Try.ntmps64
  by_cases c1 : 128 ≤ b
  · by_cases c2 : b < 192
    · have e : cont b = true := by simp [cont, c1]; omega
      rw [e]
      go_wp2
      go_ret
      exact ⟨rfl, rfl⟩
    · have e : cont b = false := by simp [cont]; omega
      rw [e]
      go_wp2
      go_ret
      exact ⟨rfl, rfl⟩
  · have e : cont b = false := by simp [cont, c1]
    rw [e]
    go_wp2
    go_ret
    exact ⟨rfl, rfl⟩
/-- What Encode hands back: the bytes of a rune, or an error. -/
def EncRes (r : Int) (w : World) (e : Ending) (w' : World) : Prop :=
  (len r = 0 → ∃ t, e = .returned (.tuple #[.string t, .int .i64 2])) ∧ (len r ≠ 0 → e = .returned (.tuple #[.string (bs (enc r)), .int .i64 0])) ∧ Below w.heap.size w w'
theorem runeFn (r : Int) (w : World) (h0 : -9223372036854775808 ≤ r) (h1 : r ≤ 9223372036854775807) : Calls Try.prog 66 #[.int .i64 r] w fun e w' => e = .returned (.bool (decide (len r ≠ 0))) ∧ w = w' := by
  by_cases c : r < 0 ∨ 1114111 < r ∨ (55296 ≤ r ∧ r ≤ 57343)
  · have e : len r = 0 := by unfold len; rw [if_pos c]
    rw [e]
    rcases c with c | c | ⟨c, c'⟩
    · go_enter Try.func66, Try.ntmps66
      go_wp2
      all_goals go_ret
      all_goals exact ⟨rfl, rfl⟩
    · go_enter Try.func66, Try.ntmps66
      go_wp2
      all_goals go_ret
      all_goals exact ⟨rfl, rfl⟩
    · have c3 : ¬ r < 55296 := by omega
      have c4 : ¬ 57343 < r := by omega
      go_enter Try.func66, Try.ntmps66
      go_wp2
      all_goals go_ret
      all_goals exact ⟨rfl, rfl⟩
  · have e : len r ≠ 0 := by unfold len; rw [if_neg c]; (repeat' split) <;> omega
    have c1 : 0 ≤ r := by omega
    have c2 : r ≤ 1114111 := by omega
    have c3 : r < 55296 ∨ 57343 < r := by omega
    rw [decide_eq_true e]
    clear e c
    rcases c3 with c3 | c3
    · go_enter Try.func66, Try.ntmps66
      go_wp2
      all_goals go_ret
      all_goals exact ⟨rfl, rfl⟩
    · go_enter Try.func66, Try.ntmps66
      go_wp2
      all_goals go_ret
      all_goals exact ⟨rfl, rfl⟩

theorem und59 : Try.prog.underlying 59 = some (.slice 5) := by kernel_rfl
theorem und5 : Try.prog.underlying 5 = some (.int .u8) := by kernel_rfl
theorem und9 : Try.prog.underlying 9 = some .string := by kernel_rfl
theorem conv_bytes (w : World) (l : List Int) (hl : ∀ x ∈ l, 0 ≤ x ∧ x < 256) (c : Nat) :
    (convert 59 9 (.slice (some ⟨w.heap.size, 0, none⟩) l.length c)).run Try.prog (w.alloc (.cells (l.map (Value.int .u8)).toArray 5)) = .ok (.string (bs l)) (w.alloc (.cells (l.map (Value.int .u8)).toArray 5)) := by
  have := run_convert_bytes_back (P := Try.prog) (w.alloc (.cells (l.map (Value.int .u8)).toArray 5)) 59 9 5 ⟨w.heap.size, 0, none⟩ c (l.map fun i => UInt8.ofNat i.toNat) und59 und5 und9 (by
    intro j hj
    have hj' : j < l.length := by simpa using hj
    have hx := hl l[j] (List.getElem_mem hj')
    simp only [List.getElem_map, UInt8.toNat_ofNat']
    have e : ((l[j].toNat % 2 ^ 8 : Nat) : Int) = l[j] := by omega
    rw [e]
    have hadd : (⟨w.heap.size, 0, none⟩ : Addr).add j = ⟨w.heap.size, j, none⟩ := by unfold Addr.add; by_cases h0 : j = 0 <;> simp [h0]
    rw [hadd]
    have hb : (w.alloc (.cells (l.map (Value.int .u8)).toArray 5)).heap[w.heap.size]? = some (.cells (l.map (Value.int .u8)).toArray 5) := heap_alloc_new w _
    unfold World.cell?
    rw [hb]
    simp [hj'])
  simpa [bs] using this
set_option maxRecDepth 1000000 in
theorem encodeFn (r : Int) (w : World) (h0 : 0 ≤ r) (h1 : r ≤ 67108864) : Calls Try.prog 65 #[.int .i64 r] w (EncRes r w) := by
  have hrune := fun W : World => runeFn r W (by omega) (by omega)
  by_cases hl : len r = 0
  · rw [hl] at hrune
    have HR := Lib.hid hrune
    have HB := Lib.hid (Below.refl w.heap.size w)
    have HL := Lib.hid hl
    clear hrune hl
    go_enter Try.func65, Try.ntmps65
    go_wp2_with ((with_reducible refine (HR.out _).mono ?_); rintro e w' ⟨rfl, rfl⟩)
    go_ret2
    exact ⟨fun _ => ⟨_, rfl⟩, fun h => absurd HL.out h, HB.out⟩
  · have hb : r ≤ 1114111 := by
      refine Classical.byContradiction fun hn => hl ?_
      unfold len; rw [if_pos (by omega)]
    rw [decide_eq_true hl] at hrune
    have HR := Lib.hid hrune
    have HL := Lib.hid hl
    have HB := Lib.hid (below_box w)
    have hbd := enc_bd (r := r)
    clear hrune hl
    by_cases c1 : r < 128
    · have he : enc r = [r] := by unfold enc; rw [if_neg HL.out, if_pos c1]
      rw [he] at hbd
      have hconv : (convert 59 9 (.slice (some ⟨w.heap.size, 0, none⟩) 1 1)).run Try.prog (w.alloc (.cells #[.int .u8 r] 5)) = .ok (.string (bs [r])) (w.alloc (.cells #[.int .u8 r] 5)) := conv_bytes w [r] hbd 1
      have HE := Lib.hid he
      clear he hbd
      go_enter Try.func65, Try.ntmps65
      go_wp2_with ((with_reducible refine (HR.out _).mono ?_); rintro e w' ⟨rfl, rfl⟩)
      go_ret2
      exact ⟨fun h => absurd h HL.out, fun _ => by rw [HE.out]; rfl, HB.out _⟩
    · by_cases c2 : r < 2048
      · have he : enc r = [192 + r / 64, 128 + r % 64] := by unfold enc; rw [if_neg HL.out, if_neg c1, if_pos c2]
        rw [he] at hbd
        have hconv : (convert 59 9 (.slice (some ⟨w.heap.size, 0, none⟩) 2 2)).run Try.prog (w.alloc (.cells #[.int .u8 (192 + r / 64), .int .u8 (128 + r % 64)] 5)) = .ok (.string (bs [192 + r / 64, 128 + r % 64])) (w.alloc (.cells #[.int .u8 (192 + r / 64), .int .u8 (128 + r % 64)] 5)) := conv_bytes w [192 + r / 64, 128 + r % 64] hbd 2
        have HE := Lib.hid he
        clear he hbd
        go_enter Try.func65, Try.ntmps65
        go_wp2_with ((with_reducible refine (HR.out _).mono ?_); rintro e w' ⟨rfl, rfl⟩)
        go_ret2
        exact ⟨fun h => absurd h HL.out, fun _ => by rw [HE.out]; rfl, HB.out _⟩
      · by_cases c3 : r < 65536
        · have he : enc r = [224 + r / 4096, 128 + r / 64 % 64, 128 + r % 64] := by unfold enc; rw [if_neg HL.out, if_neg c1, if_neg c2, if_pos c3]
          rw [he] at hbd
          have hconv : (convert 59 9 (.slice (some ⟨w.heap.size, 0, none⟩) 3 3)).run Try.prog (w.alloc (.cells #[.int .u8 (224 + r / 4096), .int .u8 (128 + r / 64 % 64), .int .u8 (128 + r % 64)] 5)) = .ok (.string (bs [224 + r / 4096, 128 + r / 64 % 64, 128 + r % 64])) (w.alloc (.cells #[.int .u8 (224 + r / 4096), .int .u8 (128 + r / 64 % 64), .int .u8 (128 + r % 64)] 5)) := conv_bytes w [224 + r / 4096, 128 + r / 64 % 64, 128 + r % 64] hbd 3
          have HE := Lib.hid he
          clear he hbd
          go_enter Try.func65, Try.ntmps65
          go_wp2_with ((with_reducible refine (HR.out _).mono ?_); rintro e w' ⟨rfl, rfl⟩)
          go_ret2
          exact ⟨fun h => absurd h HL.out, fun _ => by rw [HE.out]; rfl, HB.out _⟩
        · have he : enc r = [240 + r / 262144, 128 + r / 4096 % 64, 128 + r / 64 % 64, 128 + r % 64] := by unfold enc; rw [if_neg HL.out, if_neg c1, if_neg c2, if_neg c3]
          rw [he] at hbd
          have hconv : (convert 59 9 (.slice (some ⟨w.heap.size, 0, none⟩) 4 4)).run Try.prog (w.alloc (.cells #[.int .u8 (240 + r / 262144), .int .u8 (128 + r / 4096 % 64), .int .u8 (128 + r / 64 % 64), .int .u8 (128 + r % 64)] 5)) = .ok (.string (bs [240 + r / 262144, 128 + r / 4096 % 64, 128 + r / 64 % 64, 128 + r % 64])) (w.alloc (.cells #[.int .u8 (240 + r / 262144), .int .u8 (128 + r / 4096 % 64), .int .u8 (128 + r / 64 % 64), .int .u8 (128 + r % 64)] 5)) := conv_bytes w [240 + r / 262144, 128 + r / 4096 % 64, 128 + r / 64 % 64, 128 + r % 64] hbd 4
          have HE := Lib.hid he
          clear he hbd
          go_enter Try.func65, Try.ntmps65
          go_wp2_with ((with_reducible refine (HR.out _).mono ?_); rintro e w' ⟨rfl, rfl⟩)
          go_ret2
          exact ⟨fun h => absurd h HL.out, fun _ => by rw [HE.out]; rfl, HB.out _⟩
end Go.Proofs.Ytcicememljlafaa
