import Derived.Test.YtcicememljlafaaA5
namespace Go.Proofs.Ytcicememljlafaa
open Go.RowKit

/-- What a small script is known to be. -/
structure SmallS (s : ScrV) : Prop where
  progs : s.progs.length ≤ 10
  text : s.cfg.text.size ≤ 65546
  picks : s.picks.length ≤ 65546
  ops : ∀ j, j < s.progs.length → (s.progs.getD j []).length ≤ 300 ∧ ∀ i, i < (s.progs.getD j []).length → ((s.progs.getD j []).getD i noOp).text.size ≤ 300
def SmallRes (s : ScrV) (w : World) (e : Ending) (w' : World) : Prop := ∃ b, e = .returned (.bool b) ∧ (b = true → SmallS s) ∧ Below w.heap.size w w'
theorem smallRes_no (s : ScrV) {w w' : World} (h : Below w.heap.size w w') : SmallRes s w (.returned (.bool false)) w' := ⟨false, rfl, (fun h => by cases h), h⟩

set_option maxHeartbeats 1600000 in
set_option maxRecDepth 1000000 in
theorem small_loop_a (txt : ByteArray) (f0 f1 f2 f3 f4 f5 f6 : Int) (ps : List (List OpV)) (ks : List Int) (n1 n3 : Nat) (Ap Ak : Option Addr) (cp ck : Nat) (w : World) (HN1 : Hid (ps.length = n1)) (HN3 : Hid (ks.length = n3))
    (HP : Hid (∀ o : Obj, ProgsAt (w.alloc o) w.heap.size Ap ps)) (HB : Hid (∀ o : Obj, Below w.heap.size w (w.alloc o))) (HLL : Hid (∀ k, (ps.getD k []).length ≤ 9223372036854775807))
    (c1 : n1 ≤ 10) (hc2 : txt.size ≤ 3000) (c3 : txt.size ≤ 65546) (hc4 : n3 ≤ 3000) (c5 : n3 ≤ 65546) :
    Calls Try.prog 9 #[scrVal ⟨f0, f1, f2, f3, f4, f5, f6, txt⟩ (.slice Ap n1 cp) (.slice Ak n3 ck)] w (SmallRes ⟨⟨f0, f1, f2, f3, f4, f5, f6, txt⟩, ps, ks⟩ w) := by
  have d1 : decide ((10 : Int) < (n1 : Int)) = false := by simp; omega
  have d2 : decide ((65546 : Int) < (txt.size : Int)) = false := by simp; omega
  have d3 : decide ((65546 : Int) < (n3 : Int)) = false := by simp; omega
  go_enter Try.func9, Try.ntmps9
  go_wp2
  go_loop [3] (fun i => ∃ k : Nat, k ≤ n1 ∧ i = .int .i64 k ∧ Hid (∀ j, j < k → (ps.getD j []).length ≤ 300 ∧ ∀ i, i < (ps.getD j []).length → ((ps.getD j []).getD i noOp).text.size ≤ 300)) (fun i => n1 - (intOf i).toNat)
  case atStart => exact ⟨0, Nat.zero_le _, rfl, fun j hj => absurd hj (by omega)⟩
  case round =>
    obtain ⟨k, hk, rfl, HF⟩ := hrel
    by_cases hlt : k < n1
    · obtain ⟨b, o, rfl, hb, hcx⟩ := HP.out (.cells #[.int .i64 f0, .int .u64 f1, .int .i64 f2, .int .i64 f3, .int .i64 f4, .int .i64 f5, .int .i64 f6, .string txt, .slice Ap n1 cp, .slice Ak n3 ck] 28) (by rw [HN1.out]; omega)
      obtain ⟨A1, c1', hx, ha⟩ := hcx k (by rw [HN1.out]; exact hlt)
      rw [World.cell?_alloc_past _ _ _ (by exact hb)] at hx
      have HA := Lib.hid ha
      clear hcx ha
      have hki : (k : Int) < (n1 : Int) := by omega
      have hll := HLL.out k
      have HG := Lib.hid (rfl : ps.getD k [] = ps.getD k [])
      generalize hxs : ps.getD k [] = xs at *
      have HXS := Lib.hid hxs
      clear hxs HG
      generalize hl : xs.length = l at *
      have HLX := Lib.hid hl
      clear hl
      by_cases hlong : 300 < l
      · go_wp2
        go_ret
        exact smallRes_no _ (HB.out _)
      · go_wp2
        go_loop [4] (fun q => ∃ m : Nat, m ≤ l ∧ q = .int .i64 m ∧ Hid (∀ i, i < m → (xs.getD i noOp).text.size ≤ 300)) (fun q => l - (intOf q).toNat)
        case atStart => exact ⟨0, Nat.zero_le _, rfl, fun i hi => absurd hi (by omega)⟩
        case round =>
          obtain ⟨m, hm, rfl, HM⟩ := hrel
          by_cases hml : m < l
          · obtain ⟨b', o', rfl, hb', hop⟩ := HA.out (by rw [HLX.out]; omega)
            have hy := (hop m (by rw [HLX.out]; exact hml)).c6
            rw [World.cell?_alloc_past _ _ _ (by exact hb')] at hy
            clear hop
            have hmi : (m : Int) < (l : Int) := by omega
            generalize hop : xs.getD m noOp = op at *
            have HOP := Lib.hid hop
            clear hop
            obtain ⟨p0, p1, p2, p3, p4, p5, t6⟩ := op
            dsimp only at hy HOP
            by_cases ht6 : 300 < t6.size
            · go_wp2
              go_ret
              exact smallRes_no _ (HB.out _)
            · go_wp2
              go_round
              case rel => exact ⟨m + 1, by omega, by go_num, fun i hi => by
                rcases Nat.lt_or_ge i m with h | h
                · exact HM.out i h
                · obtain rfl : i = m := by omega
                  rw [HOP.out]; exact Nat.not_lt.1 ht6⟩
              case measure => simp [intOf]; omega
          · obtain rfl : m = l := by omega
            go_wp2
            go_round
            case rel => exact ⟨k + 1, by omega, by go_num, fun j hj => by
              rcases Nat.lt_or_ge j k with h | h
              · exact HF.out j h
              · obtain rfl : j = k := by omega
                rw [HXS.out, HLX.out]; exact ⟨Nat.not_lt.1 hlong, HM.out⟩⟩
            case measure => simp [intOf]; omega
    · obtain rfl : k = n1 := by omega
      go_wp2
      go_ret
      exact ⟨true, rfl, (fun _ => ⟨by show ps.length ≤ 10; rw [HN1.out]; exact c1, c3, by show ks.length ≤ 65546; rw [HN3.out]; exact c5, fun j hj => HF.out j (by rw [← HN1.out]; exact hj)⟩), HB.out _⟩

set_option maxHeartbeats 1600000 in
set_option maxRecDepth 1000000 in
theorem small_loop_b (txt : ByteArray) (f0 f1 f2 f3 f4 f5 f6 : Int) (ps : List (List OpV)) (ks : List Int) (n1 n3 : Nat) (Ap Ak : Option Addr) (cp ck : Nat) (w : World) (HN1 : Hid (ps.length = n1)) (HN3 : Hid (ks.length = n3))
    (HP : Hid (∀ o : Obj, ProgsAt (w.alloc o) w.heap.size Ap ps)) (HB : Hid (∀ o : Obj, Below w.heap.size w (w.alloc o))) (HLL : Hid (∀ k, (ps.getD k []).length ≤ 9223372036854775807))
    (c1 : n1 ≤ 10) (hc2 : txt.size ≤ 3000) (c3 : txt.size ≤ 65546) (hc4 : 65436 ≤ n3) (c5 : n3 ≤ 65546) :
    Calls Try.prog 9 #[scrVal ⟨f0, f1, f2, f3, f4, f5, f6, txt⟩ (.slice Ap n1 cp) (.slice Ak n3 ck)] w (SmallRes ⟨⟨f0, f1, f2, f3, f4, f5, f6, txt⟩, ps, ks⟩ w) := by
  have C5 := Lib.hid c5
  have d1 : decide ((10 : Int) < (n1 : Int)) = false := by simp; omega
  have d2 : decide ((65546 : Int) < (txt.size : Int)) = false := by simp; omega
  have d3 : decide ((65546 : Int) < (n3 : Int)) = false := by simp; omega
  go_enter Try.func9, Try.ntmps9
  go_wp2
  go_loop [3] (fun i => ∃ k : Nat, k ≤ n1 ∧ i = .int .i64 k ∧ Hid (∀ j, j < k → (ps.getD j []).length ≤ 300 ∧ ∀ i, i < (ps.getD j []).length → ((ps.getD j []).getD i noOp).text.size ≤ 300)) (fun i => n1 - (intOf i).toNat)
  case atStart => exact ⟨0, Nat.zero_le _, rfl, fun j hj => absurd hj (by omega)⟩
  case round =>
    obtain ⟨k, hk, rfl, HF⟩ := hrel
    by_cases hlt : k < n1
    · obtain ⟨b, o, rfl, hb, hcx⟩ := HP.out (.cells #[.int .i64 f0, .int .u64 f1, .int .i64 f2, .int .i64 f3, .int .i64 f4, .int .i64 f5, .int .i64 f6, .string txt, .slice Ap n1 cp, .slice Ak n3 ck] 28) (by rw [HN1.out]; omega)
      obtain ⟨A1, c1', hx, ha⟩ := hcx k (by rw [HN1.out]; exact hlt)
      rw [World.cell?_alloc_past _ _ _ (by exact hb)] at hx
      have HA := Lib.hid ha
      clear hcx ha
      have hki : (k : Int) < (n1 : Int) := by omega
      have hll := HLL.out k
      have HG := Lib.hid (rfl : ps.getD k [] = ps.getD k [])
      generalize hxs : ps.getD k [] = xs at *
      have HXS := Lib.hid hxs
      clear hxs HG
      generalize hl : xs.length = l at *
      have HLX := Lib.hid hl
      clear hl
      by_cases hlong : 300 < l
      · go_wp2
        go_ret
        exact smallRes_no _ (HB.out _)
      · go_wp2
        go_loop [4] (fun q => ∃ m : Nat, m ≤ l ∧ q = .int .i64 m ∧ Hid (∀ i, i < m → (xs.getD i noOp).text.size ≤ 300)) (fun q => l - (intOf q).toNat)
        case atStart => exact ⟨0, Nat.zero_le _, rfl, fun i hi => absurd hi (by omega)⟩
        case round =>
          obtain ⟨m, hm, rfl, HM⟩ := hrel
          by_cases hml : m < l
          · obtain ⟨b', o', rfl, hb', hop⟩ := HA.out (by rw [HLX.out]; omega)
            have hy := (hop m (by rw [HLX.out]; exact hml)).c6
            rw [World.cell?_alloc_past _ _ _ (by exact hb')] at hy
            clear hop
            have hmi : (m : Int) < (l : Int) := by omega
            generalize hop : xs.getD m noOp = op at *
            have HOP := Lib.hid hop
            clear hop
            obtain ⟨p0, p1, p2, p3, p4, p5, t6⟩ := op
            dsimp only at hy HOP
            by_cases ht6 : 300 < t6.size
            · go_wp2
              go_ret
              exact smallRes_no _ (HB.out _)
            · go_wp2
              go_round
              case rel => exact ⟨m + 1, by omega, by go_num, fun i hi => by
                rcases Nat.lt_or_ge i m with h | h
                · exact HM.out i h
                · obtain rfl : i = m := by omega
                  rw [HOP.out]; exact Nat.not_lt.1 ht6⟩
              case measure => simp [intOf]; omega
          · obtain rfl : m = l := by omega
            go_wp2
            go_round
            case rel => exact ⟨k + 1, by omega, by go_num, fun j hj => by
              rcases Nat.lt_or_ge j k with h | h
              · exact HF.out j h
              · obtain rfl : j = k := by omega
                rw [HXS.out, HLX.out]; exact ⟨Nat.not_lt.1 hlong, HM.out⟩⟩
            case measure => simp [intOf]; omega
    · obtain rfl : k = n1 := by omega
      go_wp2
      go_ret
      exact ⟨true, rfl, (fun _ => ⟨by show ps.length ≤ 10; rw [HN1.out]; exact c1, c3, by show ks.length ≤ 65546; rw [HN3.out]; exact C5.out, fun j hj => HF.out j (by rw [← HN1.out]; exact hj)⟩), HB.out _⟩

set_option maxHeartbeats 1600000 in
set_option maxRecDepth 1000000 in
theorem small_loop_c (txt : ByteArray) (f0 f1 f2 f3 f4 f5 f6 : Int) (ps : List (List OpV)) (ks : List Int) (n1 n3 : Nat) (Ap Ak : Option Addr) (cp ck : Nat) (w : World) (HN1 : Hid (ps.length = n1)) (HN3 : Hid (ks.length = n3))
    (HP : Hid (∀ o : Obj, ProgsAt (w.alloc o) w.heap.size Ap ps)) (HB : Hid (∀ o : Obj, Below w.heap.size w (w.alloc o))) (HLL : Hid (∀ k, (ps.getD k []).length ≤ 9223372036854775807))
    (c1 : n1 ≤ 10) (hc2 : 65536 < txt.size) (c3 : txt.size ≤ 65546) (hc4 : n3 ≤ 3000) (c5 : n3 ≤ 65546) :
    Calls Try.prog 9 #[scrVal ⟨f0, f1, f2, f3, f4, f5, f6, txt⟩ (.slice Ap n1 cp) (.slice Ak n3 ck)] w (SmallRes ⟨⟨f0, f1, f2, f3, f4, f5, f6, txt⟩, ps, ks⟩ w) := by
  have d1 : decide ((10 : Int) < (n1 : Int)) = false := by simp; omega
  have d2 : decide ((65546 : Int) < (txt.size : Int)) = false := by simp; omega
  have d3 : decide ((65546 : Int) < (n3 : Int)) = false := by simp; omega
  go_enter Try.func9, Try.ntmps9
  go_wp2
  go_loop [3] (fun i => ∃ k : Nat, k ≤ n1 ∧ i = .int .i64 k ∧ Hid (∀ j, j < k → (ps.getD j []).length ≤ 300 ∧ ∀ i, i < (ps.getD j []).length → ((ps.getD j []).getD i noOp).text.size ≤ 300)) (fun i => n1 - (intOf i).toNat)
  case atStart => exact ⟨0, Nat.zero_le _, rfl, fun j hj => absurd hj (by omega)⟩
  case round =>
    obtain ⟨k, hk, rfl, HF⟩ := hrel
    by_cases hlt : k < n1
    · obtain ⟨b, o, rfl, hb, hcx⟩ := HP.out (.cells #[.int .i64 f0, .int .u64 f1, .int .i64 f2, .int .i64 f3, .int .i64 f4, .int .i64 f5, .int .i64 f6, .string txt, .slice Ap n1 cp, .slice Ak n3 ck] 28) (by rw [HN1.out]; omega)
      obtain ⟨A1, c1', hx, ha⟩ := hcx k (by rw [HN1.out]; exact hlt)
      rw [World.cell?_alloc_past _ _ _ (by exact hb)] at hx
      have HA := Lib.hid ha
      clear hcx ha
      have hki : (k : Int) < (n1 : Int) := by omega
      have hll := HLL.out k
      have HG := Lib.hid (rfl : ps.getD k [] = ps.getD k [])
      generalize hxs : ps.getD k [] = xs at *
      have HXS := Lib.hid hxs
      clear hxs HG
      generalize hl : xs.length = l at *
      have HLX := Lib.hid hl
      clear hl
      by_cases hlong : 300 < l
      · go_wp2
        go_ret
        exact smallRes_no _ (HB.out _)
      · go_wp2
        go_loop [4] (fun q => ∃ m : Nat, m ≤ l ∧ q = .int .i64 m ∧ Hid (∀ i, i < m → (xs.getD i noOp).text.size ≤ 300)) (fun q => l - (intOf q).toNat)
        case atStart => exact ⟨0, Nat.zero_le _, rfl, fun i hi => absurd hi (by omega)⟩
        case round =>
          obtain ⟨m, hm, rfl, HM⟩ := hrel
          by_cases hml : m < l
          · obtain ⟨b', o', rfl, hb', hop⟩ := HA.out (by rw [HLX.out]; omega)
            have hy := (hop m (by rw [HLX.out]; exact hml)).c6
            rw [World.cell?_alloc_past _ _ _ (by exact hb')] at hy
            clear hop
            have hmi : (m : Int) < (l : Int) := by omega
            generalize hop : xs.getD m noOp = op at *
            have HOP := Lib.hid hop
            clear hop
            obtain ⟨p0, p1, p2, p3, p4, p5, t6⟩ := op
            dsimp only at hy HOP
            by_cases ht6 : 300 < t6.size
            · go_wp2
              go_ret
              exact smallRes_no _ (HB.out _)
            · go_wp2
              go_round
              case rel => exact ⟨m + 1, by omega, by go_num, fun i hi => by
                rcases Nat.lt_or_ge i m with h | h
                · exact HM.out i h
                · obtain rfl : i = m := by omega
                  rw [HOP.out]; exact Nat.not_lt.1 ht6⟩
              case measure => simp [intOf]; omega
          · obtain rfl : m = l := by omega
            go_wp2
            go_round
            case rel => exact ⟨k + 1, by omega, by go_num, fun j hj => by
              rcases Nat.lt_or_ge j k with h | h
              · exact HF.out j h
              · obtain rfl : j = k := by omega
                rw [HXS.out, HLX.out]; exact ⟨Nat.not_lt.1 hlong, HM.out⟩⟩
            case measure => simp [intOf]; omega
    · obtain rfl : k = n1 := by omega
      go_wp2
      go_ret
      exact ⟨true, rfl, (fun _ => ⟨by show ps.length ≤ 10; rw [HN1.out]; exact c1, c3, by show ks.length ≤ 65546; rw [HN3.out]; exact c5, fun j hj => HF.out j (by rw [← HN1.out]; exact hj)⟩), HB.out _⟩

set_option maxHeartbeats 1600000 in
set_option maxRecDepth 1000000 in
theorem small_loop_d (txt : ByteArray) (f0 f1 f2 f3 f4 f5 f6 : Int) (ps : List (List OpV)) (ks : List Int) (n1 n3 : Nat) (Ap Ak : Option Addr) (cp ck : Nat) (w : World) (HN1 : Hid (ps.length = n1)) (HN3 : Hid (ks.length = n3))
    (HP : Hid (∀ o : Obj, ProgsAt (w.alloc o) w.heap.size Ap ps)) (HB : Hid (∀ o : Obj, Below w.heap.size w (w.alloc o))) (HLL : Hid (∀ k, (ps.getD k []).length ≤ 9223372036854775807))
    (c1 : n1 ≤ 10) (hc2 : 65536 < txt.size) (c3 : txt.size ≤ 65546) (hc4 : 65436 ≤ n3) (c5 : n3 ≤ 65546) :
    Calls Try.prog 9 #[scrVal ⟨f0, f1, f2, f3, f4, f5, f6, txt⟩ (.slice Ap n1 cp) (.slice Ak n3 ck)] w (SmallRes ⟨⟨f0, f1, f2, f3, f4, f5, f6, txt⟩, ps, ks⟩ w) := by
  have C5 := Lib.hid c5
  have d1 : decide ((10 : Int) < (n1 : Int)) = false := by simp; omega
  have d2 : decide ((65546 : Int) < (txt.size : Int)) = false := by simp; omega
  have d3 : decide ((65546 : Int) < (n3 : Int)) = false := by simp; omega
  go_enter Try.func9, Try.ntmps9
  go_wp2
  go_loop [3] (fun i => ∃ k : Nat, k ≤ n1 ∧ i = .int .i64 k ∧ Hid (∀ j, j < k → (ps.getD j []).length ≤ 300 ∧ ∀ i, i < (ps.getD j []).length → ((ps.getD j []).getD i noOp).text.size ≤ 300)) (fun i => n1 - (intOf i).toNat)
  case atStart => exact ⟨0, Nat.zero_le _, rfl, fun j hj => absurd hj (by omega)⟩
  case round =>
    obtain ⟨k, hk, rfl, HF⟩ := hrel
    by_cases hlt : k < n1
    · obtain ⟨b, o, rfl, hb, hcx⟩ := HP.out (.cells #[.int .i64 f0, .int .u64 f1, .int .i64 f2, .int .i64 f3, .int .i64 f4, .int .i64 f5, .int .i64 f6, .string txt, .slice Ap n1 cp, .slice Ak n3 ck] 28) (by rw [HN1.out]; omega)
      obtain ⟨A1, c1', hx, ha⟩ := hcx k (by rw [HN1.out]; exact hlt)
      rw [World.cell?_alloc_past _ _ _ (by exact hb)] at hx
      have HA := Lib.hid ha
      clear hcx ha
      have hki : (k : Int) < (n1 : Int) := by omega
      have hll := HLL.out k
      have HG := Lib.hid (rfl : ps.getD k [] = ps.getD k [])
      generalize hxs : ps.getD k [] = xs at *
      have HXS := Lib.hid hxs
      clear hxs HG
      generalize hl : xs.length = l at *
      have HLX := Lib.hid hl
      clear hl
      by_cases hlong : 300 < l
      · go_wp2
        go_ret
        exact smallRes_no _ (HB.out _)
      · go_wp2
        go_loop [4] (fun q => ∃ m : Nat, m ≤ l ∧ q = .int .i64 m ∧ Hid (∀ i, i < m → (xs.getD i noOp).text.size ≤ 300)) (fun q => l - (intOf q).toNat)
        case atStart => exact ⟨0, Nat.zero_le _, rfl, fun i hi => absurd hi (by omega)⟩
        case round =>
          obtain ⟨m, hm, rfl, HM⟩ := hrel
          by_cases hml : m < l
          · obtain ⟨b', o', rfl, hb', hop⟩ := HA.out (by rw [HLX.out]; omega)
            have hy := (hop m (by rw [HLX.out]; exact hml)).c6
            rw [World.cell?_alloc_past _ _ _ (by exact hb')] at hy
            clear hop
            have hmi : (m : Int) < (l : Int) := by omega
            generalize hop : xs.getD m noOp = op at *
            have HOP := Lib.hid hop
            clear hop
            obtain ⟨p0, p1, p2, p3, p4, p5, t6⟩ := op
            dsimp only at hy HOP
            by_cases ht6 : 300 < t6.size
            · go_wp2
              go_ret
              exact smallRes_no _ (HB.out _)
            · go_wp2
              go_round
              case rel => exact ⟨m + 1, by omega, by go_num, fun i hi => by
                rcases Nat.lt_or_ge i m with h | h
                · exact HM.out i h
                · obtain rfl : i = m := by omega
                  rw [HOP.out]; exact Nat.not_lt.1 ht6⟩
              case measure => simp [intOf]; omega
          · obtain rfl : m = l := by omega
            go_wp2
            go_round
            case rel => exact ⟨k + 1, by omega, by go_num, fun j hj => by
              rcases Nat.lt_or_ge j k with h | h
              · exact HF.out j h
              · obtain rfl : j = k := by omega
                rw [HXS.out, HLX.out]; exact ⟨Nat.not_lt.1 hlong, HM.out⟩⟩
            case measure => simp [intOf]; omega
    · obtain rfl : k = n1 := by omega
      go_wp2
      go_ret
      exact ⟨true, rfl, (fun _ => ⟨by show ps.length ≤ 10; rw [HN1.out]; exact c1, c3, by show ks.length ≤ 65546; rw [HN3.out]; exact C5.out, fun j hj => HF.out j (by rw [← HN1.out]; exact hj)⟩), HB.out _⟩

set_option maxHeartbeats 1600000 in
set_option maxRecDepth 1000000 in
theorem small_at (s : ScrV) (Ap Ak : Option Addr) (cp ck : Nat) (w : World) (ht : s.cfg.text.size ≤ 9223372036854775807) (hs : Sized s)
    (h1 : ProgsAt w w.heap.size Ap s.progs) :
    Calls Try.prog 9 #[scrVal s.cfg (.slice Ap s.progs.length cp) (.slice Ak s.picks.length ck)] w (SmallRes s w) := by
  obtain ⟨ha1, ha2, ha3⟩ := hs
  have HP := Lib.hid (fun (o : Obj) => h1.below ((Below.refl _ w).alloc (Nat.le_refl _) o) (Nat.le_refl _))
  have HB := Lib.hid (fun (o : Obj) => (Below.refl _ w).alloc (Nat.le_refl _) o)
  have HLL := Lib.hid (getD_len_le s.progs _ ha3)
  clear h1 ha3
  obtain ⟨cfg, ps, ks⟩ := s
  dsimp only at *
  obtain ⟨f0, f1, f2, f3, f4, f5, f6, txt⟩ := cfg
  dsimp only at *
  have HT := Lib.hid (rfl : txt.size = txt.size)
  generalize hn1 : ps.length = n1 at *
  generalize hn3 : ks.length = n3 at *
  have HN1 := Lib.hid hn1
  have HN3 := Lib.hid hn3
  clear hn1 hn3 HT
  by_cases c1 : 10 < n1
  · go_enter Try.func9, Try.ntmps9
    go_wp2
    go_ret
    exact smallRes_no _ (HB.out _)
  by_cases c2 : 3000 < txt.size ∧ txt.size ≤ 65536
  · obtain ⟨c2a, c2b⟩ := c2
    go_enter Try.func9, Try.ntmps9
    go_wp2
    go_ret
    exact smallRes_no _ (HB.out _)
  by_cases c3 : 65546 < txt.size
  · go_enter Try.func9, Try.ntmps9
    go_wp2
    go_ret
    exact smallRes_no _ (HB.out _)
  have hc2 : txt.size ≤ 3000 ∨ 65536 < txt.size := by omega
  clear c2
  by_cases c4 : (3000 < n3 ∧ n3 < 65436) ∨ 65546 < n3
  · rcases hc2 with hc2 | hc2
    all_goals
      rcases c4 with ⟨c4a, c4b⟩ | c4
      all_goals
        go_enter Try.func9, Try.ntmps9
        go_wp2
        go_ret
        exact smallRes_no _ (HB.out _)
  have hc4 : n3 ≤ 3000 ∨ 65436 ≤ n3 := by omega
  have c5 : n3 ≤ 65546 := by omega
  clear c4
  rcases hc2 with hc2 | hc2
  · rcases hc4 with hc4 | hc4
    · exact small_loop_a txt f0 f1 f2 f3 f4 f5 f6 ps ks n1 n3 Ap Ak cp ck w HN1 HN3 HP HB HLL (by omega) hc2 (by omega) hc4 c5
    · exact small_loop_b txt f0 f1 f2 f3 f4 f5 f6 ps ks n1 n3 Ap Ak cp ck w HN1 HN3 HP HB HLL (by omega) hc2 (by omega) (by omega) c5
  · rcases hc4 with hc4 | hc4
    · exact small_loop_c txt f0 f1 f2 f3 f4 f5 f6 ps ks n1 n3 Ap Ak cp ck w HN1 HN3 HP HB HLL (by omega) hc2 (by omega) hc4 c5
    · exact small_loop_d txt f0 f1 f2 f3 f4 f5 f6 ps ks n1 n3 Ap Ak cp ck w HN1 HN3 HP HB HLL (by omega) hc2 (by omega) (by omega) c5
end Go.Proofs.Ytcicememljlafaa
