import Derived.Test.YtppbknpiipfidaaG2
namespace Go.Proofs.Ytppbknpiipfidaa
open Go.RowKit

theorem now_hit {t th : Int} {xs : List Int} {k : Nat} (h : xs.getD k 0 % t = th) : nowTo t th xs (k + 1) = 0 := by simp only [nowTo]; rw [if_pos h]
theorem now_miss {t th : Int} {xs : List Int} {k : Nat} (h : ¬ xs.getD k 0 % t = th) : nowTo t th xs (k + 1) = nowTo t th xs k + 1 := by simp only [nowTo]; rw [if_neg h]
theorem max_if (a b : Int) : (if a < b then b else a) = max a b := by omega

set_option maxHeartbeats 800000 in
theorem gap_some (t th : Int) (b o c : Nat) (xs : List Int) (w : World) (h1 : 1 ≤ t) (h2 : t ≤ 16) (h3 : 0 ≤ th) (h4 : th < t) (hn : xs.length ≤ 65536)
    (hc : ∀ j, j < xs.length → w.cell? ⟨b, o + j, none⟩ = some (.int .i64 (xs.getD j 0))) :
    Calls Try.prog 18 #[.int .i64 t, .int .i64 th, .slice (some ⟨b, o, none⟩) xs.length c] w (PairRes (.int .i64 (mostTo t th xs xs.length)) 0 w) := by
  generalize hl : xs.length = n at *
  have HL := Lib.hid hl
  clear hl
  have HC := Lib.hid hc
  clear hc
  have d1 : decide ((65536 : Int) < (n : Int)) = false := by simp; omega
  go_enter Try.func18, Try.ntmps18
  go_wp2_with ((with_reducible refine (valid_yes t _ h1 h2).mono ?_); rintro e w' ⟨rfl, rfl⟩)
  go_loop [8, 9, 29] (fun m q i => ∃ k : Nat, i = .int .i64 k ∧ k ≤ n ∧ m = .int .i64 (mostTo t th xs k) ∧ q = .int .i64 (nowTo t th xs k)) (fun _ _ i => n - (intOf i).toNat)
  case atStart => exact ⟨0, rfl, Nat.zero_le _, rfl, rfl⟩
  case round =>
    obtain ⟨k, rfl, hk, rfl, rfl⟩ := hrel
    by_cases hlt : k < n
    · have hx : w.cell? ⟨b, o + k, none⟩ = some (.int .i64 (xs.getD k 0)) := HC.out k hlt
      have hki : (k : Int) < (n : Int) := by omega
      have bd1 := nowTo_bd t th xs k
      have bd2 := mostTo_bd t th xs k
      obtain ⟨b1, b2⟩ := bd1
      obtain ⟨b3, b4⟩ := bd2
      by_cases hit : xs.getD k 0 % t = th
      · have HS := Lib.hid (now_hit hit)
        have hbe : (xs.getD k 0 % t == th) = true := by simpa using hit
        clear hit
        generalize hmv : mostTo t th xs k = mv at *
        have HM := Lib.hid hmv
        clear hmv
        generalize hnv : nowTo t th xs k = nv at *
        clear hnv
        generalize hxv : xs.getD k 0 = xv at *
        clear hxv
        go_wp2_with ((with_reducible refine (chosen1 t xv _ h1 h2).mono ?_); rintro e w' ⟨rfl, rfl⟩)
        all_goals
          go_round
          case rel => exact ⟨k + 1, by go_num, by omega, congrArg (Value.int .i64) (by have e1 := HS.out; have e2 := HM.out; show _ = max (mostTo t th xs k) (nowTo t th xs (k + 1)); rw [e1, e2]; first | omega | (split <;> omega)), congrArg (Value.int .i64) HS.out.symm⟩
          case measure => simp [intOf]; omega
      · have HS := Lib.hid (now_miss hit)
        have hbe : (xs.getD k 0 % t == th) = false := by simpa using hit
        clear hit
        generalize hmv : mostTo t th xs k = mv at *
        have HM := Lib.hid hmv
        clear hmv
        generalize hnv : nowTo t th xs k = nv at *
        clear hnv
        generalize hxv : xs.getD k 0 = xv at *
        clear hxv
        go_wp2_with ((with_reducible refine (chosen1 t xv _ h1 h2).mono ?_); rintro e w' ⟨rfl, rfl⟩)
        all_goals
          go_round
          case rel => exact ⟨k + 1, by go_num, by omega, congrArg (Value.int .i64) (by have e1 := HS.out; have e2 := HM.out; show _ = max (mostTo t th xs k) (nowTo t th xs (k + 1)); rw [e1, e2]; first | omega | (split <;> omega)), congrArg (Value.int .i64) HS.out.symm⟩
          case measure => simp [intOf]; omega
    · obtain rfl : k = n := by omega
      go_wp2
      go_ret2
      exact ⟨rfl, rfl⟩
set_option maxHeartbeats 800000 in
theorem refGap_some (t th : Int) (b o c : Nat) (xs : List Int) (w : World) (h1 : 1 ≤ t) (h2 : t ≤ 16) (h3 : 0 ≤ th) (h4 : th < t) (hn : xs.length ≤ 65536)
    (hc : ∀ j, j < xs.length → w.cell? ⟨b, o + j, none⟩ = some (.int .i64 (xs.getD j 0))) :
    Calls Try.prog 19 #[.int .i64 t, .int .i64 th, .slice (some ⟨b, o, none⟩) xs.length c] w (PairRes (.int .i64 (mostTo t th xs xs.length)) 0 w) := by
  generalize hl : xs.length = n at *
  have HL := Lib.hid hl
  clear hl
  have HC := Lib.hid hc
  clear hc
  have d1 : decide ((65536 : Int) < (n : Int)) = false := by simp; omega
  go_enter Try.func19, Try.ntmps19
  go_wp2_with ((with_reducible refine (refValid_yes t _ h1 h2).mono ?_); rintro e w' ⟨rfl, rfl⟩)
  go_loop [8, 9, 10] (fun m q i => ∃ k : Nat, i = .int .i64 k ∧ k ≤ n ∧ m = .int .i64 (mostTo t th xs k) ∧ q = .int .i64 (nowTo t th xs k)) (fun _ _ i => n - (intOf i).toNat)
  case atStart => exact ⟨0, rfl, Nat.zero_le _, rfl, rfl⟩
  case round =>
    obtain ⟨k, rfl, hk, rfl, rfl⟩ := hrel
    by_cases hlt : k < n
    · have hx : w.cell? ⟨b, o + k, none⟩ = some (.int .i64 (xs.getD k 0)) := HC.out k hlt
      have hki : (k : Int) < (n : Int) := by omega
      have bd1 := nowTo_bd t th xs k
      have bd2 := mostTo_bd t th xs k
      obtain ⟨b1, b2⟩ := bd1
      obtain ⟨b3, b4⟩ := bd2
      by_cases hit : xs.getD k 0 % t = th
      · have HS := Lib.hid (now_hit hit)
        have hbe : (xs.getD k 0 % t == th) = true := by simpa using hit
        clear hit
        generalize hmv : mostTo t th xs k = mv at *
        have HM := Lib.hid hmv
        clear hmv
        generalize hnv : nowTo t th xs k = nv at *
        clear hnv
        generalize hxv : xs.getD k 0 = xv at *
        clear hxv
        go_wp2_with ((with_reducible refine (thread1 t xv _ h1 h2).mono ?_); rintro e w' ⟨rfl, rfl⟩)
        all_goals
          go_round
          case rel => exact ⟨k + 1, by go_num, by omega, congrArg (Value.int .i64) (by have e1 := HS.out; have e2 := HM.out; show _ = max (mostTo t th xs k) (nowTo t th xs (k + 1)); rw [e1, e2]; first | omega | (split <;> omega)), congrArg (Value.int .i64) HS.out.symm⟩
          case measure => simp [intOf]; omega
      · have HS := Lib.hid (now_miss hit)
        have hbe : (xs.getD k 0 % t == th) = false := by simpa using hit
        clear hit
        generalize hmv : mostTo t th xs k = mv at *
        have HM := Lib.hid hmv
        clear hmv
        generalize hnv : nowTo t th xs k = nv at *
        clear hnv
        generalize hxv : xs.getD k 0 = xv at *
        clear hxv
        go_wp2_with ((with_reducible refine (thread1 t xv _ h1 h2).mono ?_); rintro e w' ⟨rfl, rfl⟩)
        all_goals
          go_round
          case rel => exact ⟨k + 1, by go_num, by omega, congrArg (Value.int .i64) (by have e1 := HS.out; have e2 := HM.out; show _ = max (mostTo t th xs k) (nowTo t th xs (k + 1)); rw [e1, e2]; first | omega | (split <;> omega)), congrArg (Value.int .i64) HS.out.symm⟩
          case measure => simp [intOf]; omega
    · obtain rfl : k = n := by omega
      go_wp2
      go_ret2
      exact ⟨rfl, rfl⟩

set_option maxHeartbeats 800000 in
theorem refFair_some (t th K : Int) (b o c : Nat) (xs : List Int) (w : World) (h1 : 1 ≤ t) (h2 : t ≤ 16) (h3 : 0 ≤ th) (h4 : th < t) (h5 : 1 ≤ K) (h6 : K ≤ xs.length) (hn : xs.length ≤ 65536)
    (hc : ∀ j, j < xs.length → w.cell? ⟨b, o + j, none⟩ = some (.int .i64 (xs.getD j 0))) :
    Calls Try.prog 21 #[.int .i64 t, .int .i64 th, .int .i64 K, .slice (some ⟨b, o, none⟩) xs.length c] w (PairRes (.bool (decide (mostTo t th xs xs.length < K))) 0 w) := by
  generalize hl : xs.length = n at *
  have HL := Lib.hid hl
  clear hl
  have HC := Lib.hid hc
  clear hc
  have d1 : decide ((65536 : Int) < (n : Int)) = false := by simp; omega
  have d2 : decide ((n : Int) < K) = false := by simp; omega
  go_enter Try.func21, Try.ntmps21
  go_wp2_with ((with_reducible refine (refValid_yes t _ h1 h2).mono ?_); rintro e w' ⟨rfl, rfl⟩)
  go_loop [10, 11] (fun q i => ∃ k : Nat, i = .int .i64 k ∧ k ≤ n ∧ q = .int .i64 ((k : Int) - 1 - nowTo t th xs k) ∧ mostTo t th xs k < K) (fun _ i => n - (intOf i).toNat)
  case atStart => exact ⟨0, rfl, Nat.zero_le _, rfl, by simp [mostTo]; omega⟩
  case round =>
    obtain ⟨k, rfl, hk, rfl, hm⟩ := hrel
    by_cases hlt : k < n
    · have hx : w.cell? ⟨b, o + k, none⟩ = some (.int .i64 (xs.getD k 0)) := HC.out k hlt
      have hki : (k : Int) < (n : Int) := by omega
      obtain ⟨b1, b2⟩ := nowTo_bd t th xs k
      obtain ⟨b3, b4⟩ := mostTo_bd t th xs k
      have hmm : mostTo t th xs (k + 1) ≤ mostTo t th xs n := mostTo_mono t th xs (by omega)
      have HMM := Lib.hid hmm
      clear hmm
      by_cases hit : xs.getD k 0 % t = th
      · have HS := Lib.hid (now_hit hit)
        have hbe : (xs.getD k 0 % t == th) = true := by simpa using hit
        clear hit
        generalize hmv : mostTo t th xs k = mv at *
        have HM := Lib.hid hmv
        clear hmv
        generalize hnv : nowTo t th xs k = nv at *
        clear hnv
        generalize hxv : xs.getD k 0 = xv at *
        clear hxv
        go_wp2_with ((with_reducible refine (thread1 t xv _ h1 h2).mono ?_); rintro e w' ⟨rfl, rfl⟩)
        all_goals
          go_round
          case rel => exact ⟨k + 1, by go_num, by omega, congrArg (Value.int .i64) (by have e1 := HS.out; rw [e1]; omega), by have e1 := HS.out; have e2 := HM.out; show max (mostTo t th xs k) (nowTo t th xs (k + 1)) < K; rw [e1, e2]; omega⟩
          case measure => simp [intOf]; omega
      · have HS := Lib.hid (now_miss hit)
        have hbe : (xs.getD k 0 % t == th) = false := by simpa using hit
        clear hit
        generalize hmv : mostTo t th xs k = mv at *
        have HM := Lib.hid hmv
        clear hmv
        generalize hnv : nowTo t th xs k = nv at *
        clear hnv
        generalize hxv : xs.getD k 0 = xv at *
        clear hxv
        by_cases hgo : nv + 1 < K
        · go_wp2_with ((with_reducible refine (thread1 t xv _ h1 h2).mono ?_); rintro e w' ⟨rfl, rfl⟩)
          all_goals
            go_round
            case rel => exact ⟨k + 1, by go_num, by omega, congrArg (Value.int .i64) (by have e1 := HS.out; rw [e1]; omega), by have e1 := HS.out; have e2 := HM.out; show max (mostTo t th xs k) (nowTo t th xs (k + 1)) < K; rw [e1, e2]; omega⟩
            case measure => simp [intOf]; omega
        · go_wp2_with ((with_reducible refine (thread1 t xv _ h1 h2).mono ?_); rintro e w' ⟨rfl, rfl⟩)
          go_ret2
          have hd : decide (mostTo t th xs n < K) = false := by
            have e1 := HS.out; have e2 := HM.out; have e3 := HMM.out
            have e4 : mostTo t th xs (k + 1) = max (mostTo t th xs k) (nowTo t th xs (k + 1)) := rfl
            simp; omega
          rw [hd]
          exact ⟨rfl, rfl⟩
    · obtain rfl : k = n := by omega
      have hd : decide (mostTo t th xs k < K) = true := by simpa using hm
      rw [hd]
      go_wp2
      go_ret2
      exact ⟨rfl, rfl⟩
end Go.Proofs.Ytppbknpiipfidaa
