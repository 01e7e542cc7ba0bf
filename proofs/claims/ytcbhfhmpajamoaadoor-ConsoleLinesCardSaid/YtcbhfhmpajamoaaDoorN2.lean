/- Ported: plain operations, by the program (Index, Contains, size). -/
import Derived.Test.YtcbhfhmpajamoaaDoorN1
namespace Go.Proofs.YtcbhfhmpajamoaaDoor
open Go.RowKit

theorem toList_empty (s : ByteArray) : s.toList.isEmpty = decide (s.size = 0) := by
  rw [ByteArray.toList_eq]
  obtain ⟨⟨l⟩⟩ := s
  cases l <;> simp [ByteArray.size]
/-- A number in n bytes, the highest first. -/
def num (v : Int) : Nat → List Int
  | 0 => []
  | n + 1 => num (v / 256) n ++ [v % 256]
theorem num_len (v : Int) (n : Nat) : (num v n).length = n := by
  induction n generalizing v with
  | zero => rfl
  | succ n ih => simp [num, ih]
def encText (t : ByteArray) : List Int := num t.size 2 ++ (List.range t.size).map fun _ => 0
def encF (o : OpV) (f : Int) : List Int :=
  if f = 0 then num o.slot 1 else if f = 1 then num o.pos 2 else if f = 2 then num o.num 2 else if f = 3 then num o.id 4 else if f = 4 then num o.grav 1 else encText o.text
def encFs (o : OpV) (fs : List Int) : List Int := fs.flatMap (encF o)
def encOp (o : OpV) : List Int := num o.kind 1 ++ encFs o (fieldsOf o.kind)
def encOps (p : List OpV) : List Int := p.flatMap encOp
def encProg (p : List OpV) : List Int := num p.length 2 ++ encOps p
def encProgs (ps : List (List OpV)) : List Int := ps.flatMap encProg
/-! ### Validity -/
def zeroF (o : OpV) (f : Int) : Prop :=
  if f = 0 then o.slot = 0 else if f = 1 then o.pos = 0 else if f = 2 then o.num = 0 else if f = 3 then o.id = 0 else if f = 4 then o.grav = 0 else o.text.size = 0
def fitF (o : OpV) (f : Int) : Prop :=
  if f = 0 then 0 ≤ o.slot ∧ o.slot ≤ 255 else if f = 1 then 0 ≤ o.pos ∧ o.pos ≤ 65535 else if f = 2 then 0 ≤ o.num ∧ o.num ≤ 65535 else if f = 3 then True else if f = 4 then True else o.text.size ≤ 256
def uses (k f : Int) : Bool := (fieldsOf k).contains f
def okF (o : OpV) (f : Int) : Prop := if uses o.kind f then fitF o f else zeroF o f
structure PlainOp (o : OpV) : Prop where
  kind : 1 ≤ o.kind ∧ o.kind ≤ 16
  f0 : okF o 0
  f1 : okF o 1
  f2 : okF o 2
  f3 : okF o 3
  f4 : okF o 4
  f5 : okF o 5
theorem PlainOp.slot {o : OpV} (h : PlainOp o) : 0 ≤ o.slot ∧ o.slot ≤ 255 := by
  have := h.f0; unfold okF at this; split at this <;> simp [fitF, zeroF] at this <;> omega
theorem PlainOp.pos {o : OpV} (h : PlainOp o) : 0 ≤ o.pos ∧ o.pos ≤ 65535 := by
  have := h.f1; unfold okF at this; split at this <;> simp [fitF, zeroF] at this <;> omega
theorem PlainOp.num {o : OpV} (h : PlainOp o) : 0 ≤ o.num ∧ o.num ≤ 65535 := by
  have := h.f2; unfold okF at this; split at this <;> simp [fitF, zeroF] at this <;> omega
theorem PlainOp.text {o : OpV} (h : PlainOp o) : o.text.size ≤ 256 := by
  have := h.f5
  unfold okF at this
  split at this
  · exact this
  · have h0 : o.text.size = 0 := this
    omega

theorem encOps_snoc (p : List OpV) (o : OpV) : encOps (p ++ [o]) = encOps p ++ encOp o := by simp [encOps]
theorem encProgs_snoc (p : List (List OpV)) (o : List OpV) : encProgs (p ++ [o]) = encProgs p ++ encProg o := by simp [encProgs]
def in5 (f : Int) : Prop := f = 0 ∨ f = 1 ∨ f = 2 ∨ f = 3 ∨ f = 4 ∨ f = 5
theorem empty_of {t : ByteArray} (h : t.size = 0) : t = ByteArray.empty := by
  apply ByteArray.ext
  exact Array.eq_empty_of_size_eq_zero h

theorem contains_take_succ (xs : List Int) (k : Nat) (f : Int) (hk : k < xs.length) (h : (xs.take k).contains f = false) (he : f ≠ xs.getD k 0) : (xs.take (k + 1)).contains f = false := by
  rw [List.take_succ_eq_append_getElem hk]
  simp [List.getD_eq_getElem?_getD, hk] at he
  have h' : f ∉ xs.take k := fun hm => by rw [List.contains_iff_mem.2 hm] at h; cases h
  rw [Bool.eq_false_iff]
  intro hc
  rcases List.mem_append.1 (List.contains_iff_mem.1 hc) with hm | hm
  · exact h' hm
  · exact he (by simpa using hm)
theorem contains_at (xs : List Int) (k : Nat) (hk : k < xs.length) : xs.contains (xs.getD k 0) = true := by
  simp [List.getD_eq_getElem?_getD, hk]
set_option maxHeartbeats 400000 in
theorem indexFn (A : Option Addr) (c : Nat) (f : Int) (xs : List Int) (w : World) (hx : U8s w A xs) (hl : xs.length ≤ 16) :
    Calls Tryd.prog 66 #[.slice A xs.length c, .int .u8 f] w (fun e w' => ∃ i : Int, e = .returned (.int .i64 i) ∧ decide (0 ≤ i) = xs.contains f ∧ ∃ k, w' = w.drewN k) := by
  have HX := Lib.hid hx
  clear hx
  generalize hn : xs.length = n at *
  have HN := Lib.hid hn
  clear hn
  go_enter Tryd.func66, Tryd.ntmps66
  go_wp2
  go_loopw [8] (fun i wr => ∃ k : Nat, k ≤ n ∧ i = .int .i64 k ∧ Hid ((xs.take k).contains f = false) ∧ Hid (∃ m, wr = w.drewN m)) (fun i _ => n - (intOf i).toNat)
  case atStart => exact ⟨0, Nat.zero_le _, rfl, rfl, 0, rfl⟩
  case round =>
    obtain ⟨k, hk, rfl, HT, HW⟩ := hrel
    have hwr : ∀ p, wr.cell? p = w.cell? p := by obtain ⟨m, rfl⟩ := HW.out; intro p; rfl
    by_cases hlt : k < n
    · obtain ⟨b, o, rfl, _, hc⟩ := HX.out (by rw [HN.out]; omega)
      have hy : wr.cell? ⟨b, o + k, none⟩ = some (.int .u8 (xs.getD k 0)) := by rw [hwr]; exact hc k (by rw [HN.out]; exact hlt)
      clear hwr hc
      have hki : (k : Int) < (n : Int) := by omega
      have HS := Lib.hid (contains_take_succ xs k f (by rw [HN.out]; exact hlt) HT.out)
      have HA := Lib.hid (contains_at xs k (by rw [HN.out]; exact hlt))
      generalize hxv : xs.getD k 0 = xv at *
      clear hxv
      by_cases hxy : f = xv
      · subst hxy
        have hbe : (f == f) = true := by simp
        go_wp2
        all_goals (try (go_quiet (fail); go_wp2))
        go_ret
        refine ⟨k, rfl, ?_, ?_⟩
        · rw [HA.out]; simp
        · obtain ⟨m, rfl⟩ := HW.out
          first | exact ⟨_, World.drewN_drewN _ _ _⟩ | exact ⟨m, rfl⟩
      · have hbe : (f == xv) = false := by simpa using hxy
        have HS2 := Lib.hid (HS.out hxy)
        clear HS
        go_wp2
        all_goals (try (go_quiet (fail); go_wp2))
        go_roundw
        case rel => exact ⟨k + 1, by omega, by go_num, HS2.out, by obtain ⟨m, rfl⟩ := HW.out; first | exact ⟨_, World.drewN_drewN _ _ _⟩ | exact ⟨m, rfl⟩⟩
        case measure => simp [intOf]; omega
    · obtain rfl : k = n := by omega
      clear hwr
      go_wp2
      go_ret
      have := HT.out
      rw [List.take_of_length_le (by rw [HN.out]; omega)] at this
      exact ⟨-1, rfl, by rw [this]; rfl, HW.out⟩
theorem containsFn (A : Option Addr) (c : Nat) (f : Int) (xs : List Int) (w : World) (hx : U8s w A xs) (hl : xs.length ≤ 16) :
    Calls Tryd.prog 51 #[.slice A xs.length c, .int .u8 f] w (fun e w' => e = .returned (.bool (xs.contains f)) ∧ ∃ k, w' = w.drewN k) := by
  have HI := Lib.hid (indexFn A c f xs w hx hl)
  clear hx hl
  generalize xs.contains f = q at *
  generalize xs.length = n at *
  go_enter Tryd.func51, Tryd.ntmps51
  go_wp2_with fail
  refine HI.out.mono ?_
  rintro e w' ⟨i, rfl, hi, m, rfl⟩
  cases q
  · have h0 : ¬ 0 ≤ i := by simpa using hi
    go_wp2
    go_ret
    exact ⟨rfl, m, rfl⟩
  · have h0 : 0 ≤ i := by simpa using hi
    go_wp2
    go_ret
    exact ⟨rfl, m, rfl⟩
theorem U8s.drewN {w : World} {A : Option Addr} {xs : List Int} (h : U8s w A xs) (k : Nat) : U8s (w.drewN k) A xs := h
theorem hasFn (b c : Nat) (A : Option Addr) (f : Int) (z t : Bool) (xs : List Int) (w : World) (hc : w.cell? ⟨b, 0, none⟩ = some (.slice A xs.length c)) (hx : U8s w A xs) (hl : xs.length ≤ 16) :
    Calls Tryd.prog 50 #[.int .u8 f, .bool z, .bool t, .pointer (some ⟨b, 0, none⟩)] w (fun e w' => e = .returned (.bool (if xs.contains f then t else z)) ∧ ∃ k, w' = w.drewN k) := by
  have HI := Lib.hid (containsFn A c f xs w hx hl)
  clear hx hl
  generalize xs.contains f = q at *
  generalize xs.length = n at *
  go_enter Tryd.func50, Tryd.ntmps50
  go_wp2_with fail
  refine HI.out.mono ?_
  rintro e w' ⟨rfl, m, rfl⟩
  cases q
  · go_wp2
    go_ret
    exact ⟨rfl, m, rfl⟩
  · go_wp2
    go_ret
    exact ⟨rfl, m, rfl⟩
/-- How many bytes a field has. -/
def szF (o : OpV) (f : Int) : Int := if f = 0 then 1 else if f = 1 then 2 else if f = 2 then 2 else if f = 3 then 4 else if f = 4 then 1 else 2 + o.text.size
theorem szF_len (o : OpV) (f : Int) : szF o f = (encF o f).length := by
  unfold szF encF
  (repeat' split) <;> simp [num_len, encText]
theorem sizeFn (o : OpV) (f : Int) (w : World) (hf : in5 f) (ht : o.text.size ≤ 9223372036854775000) :
    Calls Tryd.prog 52 #[opVal o, .int .u8 f] w (fun e w' => e = .returned (.int .i64 (szF o f)) ∧ Below w.heap.size w w' ∧ w.grownBy w' none) := by
  obtain ⟨x0, x1, x2, x3, x4, x5, x6⟩ := o
  dsimp only at ht
  have HB := Lib.hid (fun ob : Obj => (Below.refl w.heap.size w).alloc (Nat.le_refl _) ob)
  have HG := Lib.hid (fun ob : Obj => grown_alloc (World.grownBy.refl w none) ob)
  rcases hf with rfl | rfl | rfl | rfl | rfl | rfl
  all_goals
    go_enter Tryd.func52, Tryd.ntmps52
    go_wp2
    go_ret
    exact ⟨rfl, HB.out _, HG.out _⟩
end Go.Proofs.YtcbhfhmpajamoaaDoor
