import Derived.Test.YtcicememljlafaaRR3
namespace Go.Proofs.Ytcicememljlafaa
open Go.RowKit

set_option maxHeartbeats 4000000 in
set_option maxRecDepth 100000 in
theorem read_ref (s : ByteArray) (w : World) (hs : s.size ≤ 3000) :
    Calls Try.prog 13 #[.string s] w fun e w' => ∃ v, e = .returned v ∧ ScrAt w' w'.heap.size v (readScr s) ∧ Below w.heap.size w w' := by
  have HR := Lib.hid (rrst_init w s)
  have HSZ := Lib.hid (fun k => Nat.le_trans (Nat.le_of_eq (tlN_size s k)) (Nat.le_trans (Nat.sub_le _ _) hs))
  go_enter Try.func13, Try.ntmps13
  go_wp2_with fail
  generalize hB : w.heap.size = B at *
  have HBB := Lib.hid hB
  clear hB
  refine (refNext 112 (B + 1) 56 (tlN s 0) _ HR.out.str (HSZ.out 0) (by omega) (by omega)).mono ?_
  rintro e w0 ⟨rfl, hb, hg⟩

  replace HR : Hid (RrSt _ _ B (tlN s 1) _ _ _ _ _ _) := HR.out.next hb hg
  have c0 := HR.out.bld.c0
  have f0 := HR.out.frx 0
  have b00 := Int.emod_nonneg (hd (tlN s 0)) (show (112 : Int) ≠ 0 by omega)
  have b01 := Int.emod_lt_of_pos (hd (tlN s 0)) (show (0 : Int) < 112 by omega)
  clear hb hg
  generalize hq0 : hd (tlN s 0) % 112 = q0 at *
  have Q0 := Lib.hid hq0
  clear hq0
  replace HR := Lib.hid (HR.out.set0 (16 + q0))
  go_wp2_with fail
  refine (refNext 8 (B + 1) 56 (tlN s 1) _ HR.out.str (HSZ.out 1) (by omega) (by omega)).mono ?_
  rintro e w1 ⟨rfl, hb, hg⟩
  clear c0 f0
  replace HR : Hid (RrSt _ _ B (tlN s 2) _ _ _ _ _ _) := HR.out.next hb hg
  have c1 := HR.out.bld.c1
  have f1 := HR.out.frx 1
  have b10 := Int.emod_nonneg (hd (tlN s 1)) (show (8 : Int) ≠ 0 by omega)
  have b11 := Int.emod_lt_of_pos (hd (tlN s 1)) (show (0 : Int) < 8 by omega)
  clear hb hg
  generalize hq1 : hd (tlN s 1) % 8 = q1 at *
  have Q1 := Lib.hid hq1
  clear hq1
  replace HR := Lib.hid (HR.out.set1 (1 + q1))
  go_wp2_with fail
  refine (refNext 4 (B + 1) 56 (tlN s 2) _ HR.out.str (HSZ.out 2) (by omega) (by omega)).mono ?_
  rintro e w2 ⟨rfl, hb, hg⟩
  clear c1 f1
  replace HR : Hid (RrSt _ _ B (tlN s 3) _ _ _ _ _ _) := HR.out.next hb hg
  have c2 := HR.out.bld.c2
  have f2 := HR.out.frx 2
  have b20 := Int.emod_nonneg (hd (tlN s 2)) (show (4 : Int) ≠ 0 by omega)
  have b21 := Int.emod_lt_of_pos (hd (tlN s 2)) (show (0 : Int) < 4 by omega)
  clear hb hg
  generalize hq2 : hd (tlN s 2) % 4 = q2 at *
  have Q2 := Lib.hid hq2
  clear hq2
  replace HR := Lib.hid (HR.out.set2 (q2))
  go_wp2_with fail
  refine (refNext 4 (B + 1) 56 (tlN s 3) _ HR.out.str (HSZ.out 3) (by omega) (by omega)).mono ?_
  rintro e w3 ⟨rfl, hb, hg⟩
  clear c2 f2
  replace HR : Hid (RrSt _ _ B (tlN s 4) _ _ _ _ _ _) := HR.out.next hb hg
  have c3 := HR.out.bld.c3
  have f3 := HR.out.frx 3
  have b30 := Int.emod_nonneg (hd (tlN s 3)) (show (4 : Int) ≠ 0 by omega)
  have b31 := Int.emod_lt_of_pos (hd (tlN s 3)) (show (0 : Int) < 4 by omega)
  clear hb hg
  generalize hq3 : hd (tlN s 3) % 4 = q3 at *
  have Q3 := Lib.hid hq3
  clear hq3
  replace HR := Lib.hid (HR.out.set3 (q3))
  go_wp2_with fail
  refine (refNext 4 (B + 1) 56 (tlN s 4) _ HR.out.str (HSZ.out 4) (by omega) (by omega)).mono ?_
  rintro e w4 ⟨rfl, hb, hg⟩
  clear c3 f3
  replace HR : Hid (RrSt _ _ B (tlN s 5) _ _ _ _ _ _) := HR.out.next hb hg
  have c4 := HR.out.bld.c4
  have f4 := HR.out.frx 4
  have b40 := Int.emod_nonneg (hd (tlN s 4)) (show (4 : Int) ≠ 0 by omega)
  have b41 := Int.emod_lt_of_pos (hd (tlN s 4)) (show (0 : Int) < 4 by omega)
  clear hb hg
  generalize hq4 : hd (tlN s 4) % 4 = q4 at *
  have Q4 := Lib.hid hq4
  clear hq4
  replace HR := Lib.hid (HR.out.set4 (1 + q4))
  go_wp2_with fail
  refine (refNext 4 (B + 1) 56 (tlN s 5) _ HR.out.str (HSZ.out 5) (by omega) (by omega)).mono ?_
  rintro e w5 ⟨rfl, hb, hg⟩
  clear c4 f4
  replace HR : Hid (RrSt _ _ B (tlN s 6) _ _ _ _ _ _) := HR.out.next hb hg
  have c5 := HR.out.bld.c5
  have f5 := HR.out.frx 5
  have b50 := Int.emod_nonneg (hd (tlN s 5)) (show (4 : Int) ≠ 0 by omega)
  have b51 := Int.emod_lt_of_pos (hd (tlN s 5)) (show (0 : Int) < 4 by omega)
  clear hb hg
  generalize hq5 : hd (tlN s 5) % 4 = q5 at *
  have Q5 := Lib.hid hq5
  clear hq5
  replace HR := Lib.hid (HR.out.set5 (1 + q5))
  go_wp2_with fail
  refine (refNext 4 (B + 1) 56 (tlN s 6) _ HR.out.str (HSZ.out 6) (by omega) (by omega)).mono ?_
  rintro e w6 ⟨rfl, hb, hg⟩
  clear c5 f5
  replace HR : Hid (RrSt _ _ B (tlN s 7) _ _ _ _ _ _) := HR.out.next hb hg
  have c6 := HR.out.bld.c6
  have f6 := HR.out.frx 6
  have b60 := Int.emod_nonneg (hd (tlN s 6)) (show (4 : Int) ≠ 0 by omega)
  have b61 := Int.emod_lt_of_pos (hd (tlN s 6)) (show (0 : Int) < 4 by omega)
  clear hb hg
  generalize hq6 : hd (tlN s 6) % 4 = q6 at *
  have Q6 := Lib.hid hq6
  clear hq6
  replace HR := Lib.hid (HR.out.set6 (1 + q6))
  go_wp2_with fail
  refine (refNext 32 (B + 1) 56 (tlN s 7) _ HR.out.str (HSZ.out 7) (by omega) (by omega)).mono ?_
  rintro e w6a ⟨rfl, hb, hg⟩
  clear c6 f6
  replace HR : Hid (RrSt _ _ B (tlN s 8) _ _ _ _ _ _) := HR.out.next hb hg
  clear hb hg
  have b70 := Int.emod_nonneg (hd (tlN s 7)) (show (32 : Int) ≠ 0 by omega)
  have b71 := Int.emod_lt_of_pos (hd (tlN s 7)) (show (0 : Int) < 32 by omega)
  obtain ⟨m, hm⟩ := Int.eq_ofNat_of_zero_le b70
  have HM := Lib.hid hm
  rw [hm] at b71 ⊢
  clear hm b70
  go_wp2_with fail
  refine (refLetters m (B + 1) 56 (tlN s 8) _ HR.out.str (HSZ.out 8) (by omega)).mono ?_
  rintro e w7 ⟨rfl, hb, hg⟩
  replace HR : Hid (RrSt _ _ B (tlN (tlN s 8) m) _ _ _ _ _ _) := HR.out.next hb hg
  have c7 := HR.out.bld.c7
  have c2 := HR.out.bld.c2
  have f7 := HR.out.frx 7
  clear hb hg
  have HRC : Hid (restCfg s = tlN (tlN s 8) m) := by show tlN (tl (tlN s 7)) (hd (tlN s 7) % 32).toNat = _; rw [HM.out, Int.toNat_natCast]; rfl
  have HTX : Hid (letT (tl (tlN s 7)) (hd (tlN s 7) % 32).toNat = letT (tlN s 8) m) := by show letT (tl (tlN s 7)) (hd (tlN s 7) % 32).toNat = _; rw [HM.out, Int.toNat_natCast]; rfl
  rw [← HRC.out] at HR
  generalize letT (tlN s 8) m = tx at *
  replace HR := Lib.hid (HR.out.set7 tx)
  obtain ⟨cf, HCF, HCC, HRc⟩ : ∃ cf, Hid (cf = readCfg s) ∧ Hid (cf.clients = q2) ∧ Hid (RrSt w (w7.setCell ⟨B + 1 + 1, 7, none⟩ (.string tx)) B (restCfg s) B cf (.slice none 0 0) (.slice none 0 0) [] []) := by
    refine ⟨_, ?_, ?_, HR.out⟩
    · have e0 := Q0.out
      have e1 := Q1.out
      have e2 := Q2.out
      have e3 := Q3.out
      have e4 := Q4.out
      have e5 := Q5.out
      have e6 := Q6.out
      have e7 := HTX.out
      subst e0 e1 e2 e3 e4 e5 e6
      subst e7
      rfl
    · rfl
  clear HR HRC
  have HS8 : Hid ((restCfg s).size ≤ 3000) := by
    show (restCfg s).size ≤ 3000
    unfold restCfg
    rw [tlN_size, tl_size, tlN_size]; omega
  have HRS : Hid (readScr s = ⟨readCfg s, (progsN (restCfg s) q2.toNat).1, picksN (progsN (restCfg s) q2.toNat).2 q2 (progsN (restCfg s) q2.toNat).2.size⟩) := by
    have e2 := Q2.out
    subst e2
    exact rfl
  obtain ⟨cl, rfl⟩ := Int.eq_ofNat_of_zero_le b20
  rw [Int.toNat_natCast] at HRS
  have hcl : cl < 4 := by omega
  generalize restCfg s = s8 at *
  clear b00 b01 b10 b11 b20 b21 b30 b31 b40 b41 b50 b51 b60 b61 Q0 Q1 Q2 Q3 Q4 Q5 Q6 HTX HSZ hs HM b71
  go_wp2_with fail
  refine clientsLoopR w _ B cl s8 cf _ _ _ _ _ _ _ _ _ _ _ _ _ _ _ _ _ _ _ _ _ _ _ _ _ _ _ _ _ _ _ _ _ _ _ _ _ _ _ _ _ _ _ _ _ _ _ _ _ _ _ _ _ _ _ _ _ _ _ _ _ _ _ _ _ _ _ _ _ _ _ _ _ _ _ _ _ _ _ _  _ _ _ _ _ _ _ _ _ _ _ _ _ _ _ _ _ _ _ _ _ _ _ _ _ _ _ _ _ _ _ _ _ _ _ _ _ _ _ _ _ _ _ _ _ _ _ _ _ _ _ _ _ _ _ _ _ _ _ _ _ _ _ _ _ _ _ _ _ _ _ _  _ ?_ HRc HS8.out hcl HCC
  clear HRc c7 c2 f7
  rintro v8 lim _ _ _ _ _ _ _ _ _ _ _ _ _ _ _ _ _ _ _ _ _ _ _ _ _ _ _ _ _ _ _ _ _ _ _ _ _ _ _ _ _ _ _ _ _ _ _ _ _ _ _ _ _ _ _ _ _ _ _ _ _ _ _ _ _ _ _ _ _ _ _ _  w11 HR
  have HRP : Hid ((progsN s8 cl).2.size ≤ 3000) := Nat.le_trans (progsN_size s8 cl) HS8.out
  generalize (progsN s8 cl).2 = rp at *
  generalize (progsN s8 cl).1 = ps at *
  go_wp2_with fail
  refine picksLoopR w w11 B cl lim rp cf v8 ps _ _ _ _ _ _ _ _ _ _ _ _ _ _ _ _ _ _ _ _ _ _ _ _ _ _ _ _ _ _ _ _ _ _ _ _ _ _ _ _ _ _ _ _ _ _ _ _ _ _ _ _ _ _ _ _ _ _ _ _ _ _ _ _ _ _ _ _ _ _ _ _ _ _ _ _ _ _ _ _ _ _ _ _ _ _ _ _ _ _ _ _ _ _ _ _ _ _ _ _ _ _ _ _ _ _ _ _ _ _ _ _ _ _ _ _ _ _ _ _ _ _ _ _ _ _ _ _ _  _ _ _ _ _ _ _ _ _ _ _ _ _ _ _ _ _ _ _ _ _ _ _  _ ?_ HR HRP.out hcl HCC
  clear HR
  rintro v9 _ _ _ _ _ _ _ _ _ _ _ _ _ _ _ _ _ _ _ _ _ _ _  w12 HR
  have HPI := Lib.hid HR.out.bld.picks
  have HPG := Lib.hid HR.out.bld.progs
  obtain ⟨A8, x8, rfl⟩ := own_slice (Classical.choose_spec HPG.out).1
  obtain ⟨A9, x9, rfl⟩ := own_slice HPI.out
  have n0 := HR.out.bld.c0
  have n1 := HR.out.bld.c1
  have n2 := HR.out.bld.c2
  have n3 := HR.out.bld.c3
  have n4 := HR.out.bld.c4
  have n5 := HR.out.bld.c5
  have n6 := HR.out.bld.c6
  have n7 := HR.out.bld.c7
  have n8 := HR.out.bld.c8
  have n9 := HR.out.bld.c9
  have r0 : w12.cell? ⟨B, 0, none⟩ = some (.int .i64 0) := by rw [cell_of_row _ _ 0 _ _ _ HR.out.res]; rfl
  have z0 : w12.frozen? ⟨B, 0, none⟩ = false := (show ElemT w12 B 28 from ⟨_, HR.out.res⟩).frozen 0
  have r1 : w12.cell? ⟨B, 1, none⟩ = some (.int .u64 0) := by rw [cell_of_row _ _ 1 _ _ _ HR.out.res]; rfl
  have z1 : w12.frozen? ⟨B, 1, none⟩ = false := (show ElemT w12 B 28 from ⟨_, HR.out.res⟩).frozen 1
  have r2 : w12.cell? ⟨B, 2, none⟩ = some (.int .i64 0) := by rw [cell_of_row _ _ 2 _ _ _ HR.out.res]; rfl
  have z2 : w12.frozen? ⟨B, 2, none⟩ = false := (show ElemT w12 B 28 from ⟨_, HR.out.res⟩).frozen 2
  have r3 : w12.cell? ⟨B, 3, none⟩ = some (.int .i64 0) := by rw [cell_of_row _ _ 3 _ _ _ HR.out.res]; rfl
  have z3 : w12.frozen? ⟨B, 3, none⟩ = false := (show ElemT w12 B 28 from ⟨_, HR.out.res⟩).frozen 3
  have r4 : w12.cell? ⟨B, 4, none⟩ = some (.int .i64 0) := by rw [cell_of_row _ _ 4 _ _ _ HR.out.res]; rfl
  have z4 : w12.frozen? ⟨B, 4, none⟩ = false := (show ElemT w12 B 28 from ⟨_, HR.out.res⟩).frozen 4
  have r5 : w12.cell? ⟨B, 5, none⟩ = some (.int .i64 0) := by rw [cell_of_row _ _ 5 _ _ _ HR.out.res]; rfl
  have z5 : w12.frozen? ⟨B, 5, none⟩ = false := (show ElemT w12 B 28 from ⟨_, HR.out.res⟩).frozen 5
  have r6 : w12.cell? ⟨B, 6, none⟩ = some (.int .i64 0) := by rw [cell_of_row _ _ 6 _ _ _ HR.out.res]; rfl
  have z6 : w12.frozen? ⟨B, 6, none⟩ = false := (show ElemT w12 B 28 from ⟨_, HR.out.res⟩).frozen 6
  have r7 : w12.cell? ⟨B, 7, none⟩ = some (.string ⟨#[]⟩) := by rw [cell_of_row _ _ 7 _ _ _ HR.out.res]; rfl
  have z7 : w12.frozen? ⟨B, 7, none⟩ = false := (show ElemT w12 B 28 from ⟨_, HR.out.res⟩).frozen 7
  have r8 : w12.cell? ⟨B, 8, none⟩ = some (.slice none 0 0) := by rw [cell_of_row _ _ 8 _ _ _ HR.out.res]; rfl
  have z8 : w12.frozen? ⟨B, 8, none⟩ = false := (show ElemT w12 B 28 from ⟨_, HR.out.res⟩).frozen 8
  have r9 : w12.cell? ⟨B, 9, none⟩ = some (.slice none 0 0) := by rw [cell_of_row _ _ 9 _ _ _ HR.out.res]; rfl
  have z9 : w12.frozen? ⟨B, 9, none⟩ = false := (show ElemT w12 B 28 from ⟨_, HR.out.res⟩).frozen 9
  go_wp2_with fail
  refine bodyPost_ret (v := scrVal cf (.slice A8 ps.length x8) (.slice A9 (picksN rp cl rp.size).length x9)) (by simp [results, Try.results13, go_sem, r0, r1, r2, r3, r4, r5, r6, r7, r8, r9]) rfl ⟨_, rfl, ?_, ?_⟩
  · rw [HRS.out, ← HCF.out]
    have ht : ElemT w12 B 28 := ⟨_, HR.out.res⟩
    have hne : B ≠ B + 1 + 1 := by omega
    with_reducible refine (HR.out.bld.but (q := B) ht hne ?c1).scr
    case c1 =>
      iterate 9 with_reducible refine grown_trans ?_ (set_grown _ _ _ _)
      with_reducible exact set_grown _ _ _ _
  · rw [HBB.out]
    have hbel := HR.out.bel
    iterate 10 with_reducible refine Below.setCell ?_ (by show B ≤ B; omega) _
    exact hbel

end Go.Proofs.Ytcicememljlafaa
