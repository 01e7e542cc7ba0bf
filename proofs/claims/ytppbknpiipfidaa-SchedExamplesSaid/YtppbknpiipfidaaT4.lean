import Derived.Test.YtppbknpiipfidaaT3
namespace Go.Proofs.Ytppbknpiipfidaa
open Go.RowKit

/-- The next state of Random, and the pick that it gives. -/
def nxt (x : Int) : Int := IntKind.u64.wrap (IntKind.u64.wrap (x * 6364136223846793005) + 1442695040888963407)
def pickOf (x t : Int) : Int := wrap64 ((nxt x / 8589934592).tmod t)
def st (x : Int) : Nat → Int
  | 0 => x
  | k + 1 => nxt (st x k)
def rnd (x t : Int) (n : Nat) : List Int := (List.range n).map fun i => pickOf (st x i) t
theorem rnd_succ (x t : Int) (n : Nat) : rnd x t (n + 1) = rnd x t n ++ [pickOf (st x n) t] := by simp [rnd, List.range_succ]

set_option maxHeartbeats 400000 in
theorem rndFn (i t x : Int) (p q : Addr) (w : World) (hc : w.cell? p = some (.int .u64 x)) (hf : w.frozen? p = false) (hpq : p ≠ q) (hq : w.cell? q = some (.int .i64 t)) (h1 : 1 ≤ t) (h2 : t ≤ 16) :
    Calls Try.prog 31 #[.int .i64 i, .pointer (some p), .pointer (some q)] w fun e w' => e = .returned (.int .i64 (pickOf x t)) ∧ w.setCell p (.int .u64 (nxt x)) = w' := by
  go_enter Try.func31, Try.ntmps31
  go_wp2
  go_ret
  exact ⟨rfl, rfl⟩

set_option maxHeartbeats 400000 in
theorem refRandom_yes (x t : Int) (n : Nat) (w : World) (h1 : 1 ≤ t) (h2 : t ≤ 16) (hn : n ≤ 65536) :
    Calls Try.prog 14 #[.int .u64 x, .int .i64 t, .int .i64 n] w (IntsRes (rnd x t n) 0 w) := by
  obtain ⟨i0, hi, hz0, hz1, hz2⟩ := info_parts int_info
  have d1 : decide ((n : Int) < 0) = false := by simp
  have d2 : decide ((65536 : Int) < (n : Int)) = false := by simp; omega
  go_enter Try.func14, Try.ntmps14
  go_wp2_with ((with_reducible refine (refValid_yes t _ h1 h2).mono ?_); rintro e w' ⟨rfl, rfl⟩)
  go_loopw [8, 9, 10] (fun v y i wr => ∃ k : Nat, k ≤ n ∧ i = .int .i64 k ∧ y = .int .u64 (st x k) ∧ wr.ownsRow w.heap.size 3 1 v k ((rnd x t k).map (Value.int .i64)) ∧ Below w.heap.size w wr) (fun _ _ i _ => n - (intOf i).toNat)
  case atStart => exact ⟨0, Nat.zero_le _, rfl, rfl, World.ownsRow_nil _ _ _ _, Below.refl _ _⟩
  case round =>
    obtain ⟨k, hk, rfl, rfl, hown, hbel⟩ := hrel
    by_cases hlt : k < n
    · go_wp2_with (at_builtin; refine wpList_append_own _ rfl _ _ 23 rfl w.heap.size 3 i0 (.int .i64 0) 1 8 Try.underlying23 hi hz0 hz1 hz2 rfl (by decide) _ _ _ rfl (hown.alloc _) ⟨wr.heap.size, 0, none⟩ 1 1 [.int .i64 (pickOf (st x k) t)] rfl rfl (news_one _ _) (one_one _) ?c3 ?c4 ?c5 ?_)
      case c3 => unfold maxLen; omega
      case c4 => omega
      case c5 => have := hbel.size; simp; omega
      intro v1 w1 hown1 hg1 _
      have hb1 := round_append hbel hown hg1
      go_wp2
      go_roundw
      case rel => exact ⟨k + 1, by omega, by go_num, rfl, by rw [rnd_succ, List.map_append]; exact hown1, hb1⟩
      case measure => simp [intOf]; omega
    · go_wp2
      obtain rfl : k = n := by omega
      go_ret2
      exact res_own hown hbel

set_option maxHeartbeats 400000 in
theorem madeRandom (x t : Int) (n : Nat) (p q : Addr) (w : World) (h1 : 1 ≤ t) (h2 : t ≤ 16) (hn : n ≤ 65536) (hp : w.cell? p = some (.int .u64 x)) (hf : w.frozen? p = false) (hq : w.cell? q = some (.int .i64 t)) (hpq : p ≠ q)
    (B0 : Nat) (hpB : B0 ≤ p.block) (hB0 : B0 ≤ w.heap.size) :
    Calls Try.prog 29 #[.int .i64 t, .int .i64 n, .func (.func 31) #[] #[.pointer (some p), .pointer (some q)]] w
      (IntsResB B0 (rnd x t n) 0 w) := by
  obtain ⟨i0, hi, hz0, hz1, hz2⟩ := info_parts int_info
  have d1 : decide ((n : Int) < 0) = false := by simp
  have d2 : decide ((65536 : Int) < (n : Int)) = false := by simp; omega
  go_enter Try.func29, Try.ntmps29
  go_wp2_with (first | ((with_reducible refine (valid_yes t _ h1 h2).mono ?_); rintro e w' ⟨rfl, rfl⟩) | (at_make; refine wpList_make_full _ rfl _ _ 23 rfl w.heap.size 3 i0 (.int .i64 0) 1 Try.underlying23 hi hz0 hz1 _ _ _ _ n rfl rfl rfl rfl ?c1 ?c2 ?c3 ?_))
  case c1 => rw [hz2]; omega
  case c2 => unfold maxLen; omega
  case c3 => exact Nat.le_refl _
  intro w1 hown1 hg1
  have hm : (madeCells #[Value.int .i64 0] n).toList = (filled (fun i => pickOf (st x i) t) n 0).map (Value.int .i64) := made_filled _ n
  rw [hm] at hown1
  clear hm
  have hpb : p.block < w.heap.size := World.block_lt_of_cell? w p hp
  have hqb : q.block < w.heap.size := World.block_lt_of_cell? w q hq
  have hb1 : Below w.heap.size w w1 := (Below.refl _ _).grown hg1 (Nat.le_refl _) (fun k hk => by simp at hk)
  have hp1 : w1.cell? p = some (.int .u64 x) := (hb1.cell hpb).trans hp
  have hf1 : w1.frozen? p = false := (hb1.frozen hpb).trans hf
  have hq1 : w1.cell? q = some (.int .i64 t) := (hb1.cell hqb).trans hq
  have hb0 : Below B0 w w1 := hb1.mono hB0
  clear hg1 hb1 hp hf hq
  generalize hB : w.heap.size = B at *
  have HB := Lib.hid hB
  clear hB
  have hpne : B ≠ p.block := by omega
  have hqne : B ≠ q.block := by omega
  go_wp2
  go_loopw [9, 23] (fun _ i wr => ∃ k : Nat, k ≤ n ∧ i = .int .i64 k ∧ wr.ownsRow B 3 1 (.slice (some ⟨B, 0, none⟩) n n) n ((filled (fun i => pickOf (st x i) t) n k).map (Value.int .i64)) ∧ Below B0 w wr ∧
     wr.cell? p = some (.int .u64 (st x k)) ∧ wr.frozen? p = false ∧ wr.cell? q = some (.int .i64 t)) (fun _ i _ => n - (intOf i).toNat)
  case atStart => exact ⟨0, Nat.zero_le _, rfl, hown1, hb0, hp1, hf1, hq1⟩
  case round =>
    obtain ⟨k, hk, rfl, hown, hbel, hpc, hpf, hqc⟩ := hrel
    by_cases hlt : k < n
    · have hcell := (ownsRow_setCell_below hown (a := p) hpb (.int .u64 (nxt (st x k)))).cellAt k (by omega)
      rw [List.getElem?_map, filled_get _ n k k hlt] at hcell
      have hfr := (ownsRow_setCell_below hown (a := p) hpb (.int .u64 (nxt (st x k)))).frozenAt k
      have hki : (k : Int) < (n : Int) := by omega
      go_wp2_with ((with_reducible refine (rndFn k t (st x k) p q _ hpc hpf hpq hqc h1 h2).mono ?_); rintro e w' ⟨rfl, rfl⟩)
      have hst := (ownsRow_setCell_below hown (a := p) hpb (.int .u64 (nxt (st x k)))).stored k (.int .i64 (pickOf (st x k) t))
      rw [← List.map_set, filled_set (fun i => pickOf (st x i) t) n k hlt] at hst
      go_roundw
      case rel => 
        refine ⟨k + 1, by omega, by go_num, hst.1, (hbel.setCell hpB _).setCell (by simp; omega) _, ?_, ?_, ?_⟩
        · rw [World.cell?_setCell_other _ _ _ _ (fun e => hpne (by rw [← e])), World.cell?_setCell_same _ _ _ hpc]; rfl
        · rw [World.frozen?_setCell, World.frozen?_setCell]; exact hpf
        · rw [World.cell?_setCell_other _ _ _ _ (fun e => hqne (by rw [← e])), World.cell?_setCell_other _ _ _ _ hpq]; exact hqc
      case measure => simp [intOf]; omega
    · go_wp2
      obtain rfl : k = n := by omega
      go_ret2
      rw [filled_all] at hown
      exact res_ownB hown hbel
end Go.Proofs.Ytppbknpiipfidaa
