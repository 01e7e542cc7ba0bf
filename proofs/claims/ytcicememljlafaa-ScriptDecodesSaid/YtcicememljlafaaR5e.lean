import Derived.Test.YtcicememljlafaaR5d
namespace Go.Proofs.Ytcicememljlafaa
open Go.RowKit

theorem HBP {B : Nat} : B < B + 1 + 1 + 1 + 1 := by omega

/-- A write into another script's block. -/
theorem Bld.but {w w' : World} {B xb lim q : Nat} {cfg : CfgV} {v8 v9 : Value} {ps : List (List OpV)} {ks : List Int} (h : Bld w B xb lim cfg v8 v9 ps ks) (hq : ElemT w q 28) (hne : q ≠ xb) (hg : w.grownBy w' (some q)) : Bld w' B xb lim cfg v8 v9 ps ks := by
  have hb : ∀ {b : Nat} {t : TypeId}, ElemT w b t → b ≠ q → w'.heap[b]? = w.heap[b]? := fun {b t} ht hn => hg.block b ht.lt (by intro e; injection e; contradiction)
  have hk := hb h.t (Ne.symm hne)
  have hc : ∀ i, w'.cell? ⟨xb, i, none⟩ = w.cell? ⟨xb, i, none⟩ := fun i => World.cell?_of_block (a := ⟨xb, i, none⟩) hk
  obtain ⟨vals, p1, p2⟩ := h.progs
  have own : ∀ {e : TypeId} {size n : Nat} {v : Value} {xs : List Value}, w.ownsRow B e size v n xs → e ≠ 28 → v.ownBlock = none ∨ v.ownBlock ≠ some q := fun {e size n v xs} ho he => by
    by_cases e2 : v.ownBlock = some q
    · exact absurd rfl ((own_elem ho e2).ne hq he)
    · exact .inr e2
  refine ⟨h.t.keep hk, h.hB, (hc _).trans h.c0, (hc _).trans h.c1, (hc _).trans h.c2, (hc _).trans h.c3, (hc _).trans h.c4, (hc _).trans h.c5, (hc _).trans h.c6, (hc _).trans h.c7, (hc _).trans h.c8, (hc _).trans h.c9,
    ⟨vals, p1.kept hg (own p1 (by decide)), p2.1, fun j hj => ?_⟩, h.picks.kept hg (own h.picks (by decide))⟩
  obtain ⟨A, c, q1, q2⟩ := p2.2 j hj
  refine ⟨A, c, q1, fun hx => ?_⟩
  obtain ⟨b, o, e, hlt, ht, hcl⟩ := q2 hx
  have hkb := hb ht (ht.ne hq (by decide))
  exact ⟨b, o, e, hlt, ht.keep hkb, fun j hj => (hcl j hj).keep hkb⟩
set_option maxHeartbeats 4000000 in
set_option maxRecDepth 100000 in
theorem read_prog (s : ByteArray) (w : World) (hs : s.size ≤ 3000) :
    Calls Try.prog 12 #[.string s] w fun e w' => ∃ v, e = .returned v ∧ ScrAt w' w'.heap.size v (readScr s) ∧ Below w.heap.size w w' := by
  have hmf : ∀ (fn : Fn) (first cap : Array Value) (w : World), (Instr.makeFunc fn first cap).run Try.prog w = .ok (.func fn first cap) w := fun _ _ _ _ => rfl
  have hsf := fun (a : Addr) (f : Fn) (c d : Array Value) (w : World) => run_store Try.prog w a (.func f c d) .plain rfl
  have HR := Lib.hid (rdst_init w s)
  have HSZ := Lib.hid (fun k => Nat.le_trans (Nat.le_of_eq (tlN_size s k)) (Nat.le_trans (Nat.sub_le _ _) hs))
  go_enter Try.func12, Try.ntmps12
  go_wp2_with fail
  generalize hB : w.heap.size = B at *
  have HBB := Lib.hid hB
  clear hB hsf hmf
  refine (nextFn 112 B 9 (tlN s 0) _ HR.out.str (HSZ.out 0) (by omega) (by omega)).mono ?_
  rintro e w0 ⟨rfl, hb, hg⟩

  replace HR : Hid (RdSt _ _ B (tlN s 1) _ _ _ _ _ _) := HR.out.next hb hg
  have c0 := HR.out.bld.c0
  have f0 := HR.out.frx 0
  have n0 := HR.out.fn
  have b00 := Int.emod_nonneg (hd (tlN s 0)) (show (112 : Int) ≠ 0 by omega)
  have b01 := Int.emod_lt_of_pos (hd (tlN s 0)) (show (0 : Int) < 112 by omega)
  clear hb hg
  generalize hq0 : hd (tlN s 0) % 112 = q0 at *
  have Q0 := Lib.hid hq0
  clear hq0
  replace HR := Lib.hid (HR.out.set0 (16 + q0))
  go_wp2_with fail
  refine (nextFn 8 B 9 (tlN s 1) _ HR.out.str (HSZ.out 1) (by omega) (by omega)).mono ?_
  rintro e w1 ⟨rfl, hb, hg⟩
  clear c0 f0 n0
  replace HR : Hid (RdSt _ _ B (tlN s 2) _ _ _ _ _ _) := HR.out.next hb hg
  have c1 := HR.out.bld.c1
  have f1 := HR.out.frx 1
  have n1 := HR.out.fn
  have b10 := Int.emod_nonneg (hd (tlN s 1)) (show (8 : Int) ≠ 0 by omega)
  have b11 := Int.emod_lt_of_pos (hd (tlN s 1)) (show (0 : Int) < 8 by omega)
  clear hb hg
  generalize hq1 : hd (tlN s 1) % 8 = q1 at *
  have Q1 := Lib.hid hq1
  clear hq1
  replace HR := Lib.hid (HR.out.set1 (1 + q1))
  go_wp2_with fail
  refine (nextFn 4 B 9 (tlN s 2) _ HR.out.str (HSZ.out 2) (by omega) (by omega)).mono ?_
  rintro e w2 ⟨rfl, hb, hg⟩
  clear c1 f1 n1
  replace HR : Hid (RdSt _ _ B (tlN s 3) _ _ _ _ _ _) := HR.out.next hb hg
  have c2 := HR.out.bld.c2
  have f2 := HR.out.frx 2
  have n2 := HR.out.fn
  have b20 := Int.emod_nonneg (hd (tlN s 2)) (show (4 : Int) ≠ 0 by omega)
  have b21 := Int.emod_lt_of_pos (hd (tlN s 2)) (show (0 : Int) < 4 by omega)
  clear hb hg
  generalize hq2 : hd (tlN s 2) % 4 = q2 at *
  have Q2 := Lib.hid hq2
  clear hq2
  replace HR := Lib.hid (HR.out.set2 (q2))
  go_wp2_with fail
  refine (nextFn 4 B 9 (tlN s 3) _ HR.out.str (HSZ.out 3) (by omega) (by omega)).mono ?_
  rintro e w3 ⟨rfl, hb, hg⟩
  clear c2 f2 n2
  replace HR : Hid (RdSt _ _ B (tlN s 4) _ _ _ _ _ _) := HR.out.next hb hg
  have c3 := HR.out.bld.c3
  have f3 := HR.out.frx 3
  have n3 := HR.out.fn
  have b30 := Int.emod_nonneg (hd (tlN s 3)) (show (4 : Int) ≠ 0 by omega)
  have b31 := Int.emod_lt_of_pos (hd (tlN s 3)) (show (0 : Int) < 4 by omega)
  clear hb hg
  generalize hq3 : hd (tlN s 3) % 4 = q3 at *
  have Q3 := Lib.hid hq3
  clear hq3
  replace HR := Lib.hid (HR.out.set3 (q3))
  go_wp2_with fail
  refine (nextFn 4 B 9 (tlN s 4) _ HR.out.str (HSZ.out 4) (by omega) (by omega)).mono ?_
  rintro e w4 ⟨rfl, hb, hg⟩
  clear c3 f3 n3
  replace HR : Hid (RdSt _ _ B (tlN s 5) _ _ _ _ _ _) := HR.out.next hb hg
  have c4 := HR.out.bld.c4
  have f4 := HR.out.frx 4
  have n4 := HR.out.fn
  have b40 := Int.emod_nonneg (hd (tlN s 4)) (show (4 : Int) ≠ 0 by omega)
  have b41 := Int.emod_lt_of_pos (hd (tlN s 4)) (show (0 : Int) < 4 by omega)
  clear hb hg
  generalize hq4 : hd (tlN s 4) % 4 = q4 at *
  have Q4 := Lib.hid hq4
  clear hq4
  replace HR := Lib.hid (HR.out.set4 (1 + q4))
  go_wp2_with fail
  refine (nextFn 4 B 9 (tlN s 5) _ HR.out.str (HSZ.out 5) (by omega) (by omega)).mono ?_
  rintro e w5 ⟨rfl, hb, hg⟩
  clear c4 f4 n4
  replace HR : Hid (RdSt _ _ B (tlN s 6) _ _ _ _ _ _) := HR.out.next hb hg
  have c5 := HR.out.bld.c5
  have f5 := HR.out.frx 5
  have n5 := HR.out.fn
  have b50 := Int.emod_nonneg (hd (tlN s 5)) (show (4 : Int) ≠ 0 by omega)
  have b51 := Int.emod_lt_of_pos (hd (tlN s 5)) (show (0 : Int) < 4 by omega)
  clear hb hg
  generalize hq5 : hd (tlN s 5) % 4 = q5 at *
  have Q5 := Lib.hid hq5
  clear hq5
  replace HR := Lib.hid (HR.out.set5 (1 + q5))
  go_wp2_with fail
  refine (nextFn 4 B 9 (tlN s 6) _ HR.out.str (HSZ.out 6) (by omega) (by omega)).mono ?_
  rintro e w6 ⟨rfl, hb, hg⟩
  clear c5 f5 n5
  replace HR : Hid (RdSt _ _ B (tlN s 7) _ _ _ _ _ _) := HR.out.next hb hg
  have c6 := HR.out.bld.c6
  have f6 := HR.out.frx 6
  have n6 := HR.out.fn
  have b60 := Int.emod_nonneg (hd (tlN s 6)) (show (4 : Int) ≠ 0 by omega)
  have b61 := Int.emod_lt_of_pos (hd (tlN s 6)) (show (0 : Int) < 4 by omega)
  clear hb hg
  generalize hq6 : hd (tlN s 6) % 4 = q6 at *
  have Q6 := Lib.hid hq6
  clear hq6
  replace HR := Lib.hid (HR.out.set6 (1 + q6))
  go_wp2_with fail
  refine (wordFn 32 B (B + 1 + 1 + 1) 9 (tlN s 7) _ HR.out.str HR.out.fn (by omega) (HSZ.out 7) (by omega) (by omega)).mono ?_
  rintro e w7 ⟨rfl, hb, hg⟩
  clear c6 f6 n6
  replace HR : Hid (RdSt _ _ B (restCfg s) _ _ _ _ _ _) := HR.out.next hb hg
  have c7 := HR.out.bld.c7
  have c2 := HR.out.bld.c2
  have f7 := HR.out.frx 7
  clear hb hg
  generalize hq7 : letT (tl (tlN s 7)) (hd (tlN s 7) % 32).toNat = tx at *
  have HTX := Lib.hid hq7
  clear hq7
  replace HR := Lib.hid (HR.out.set7 tx)
  obtain ⟨cf, HCF, HCC, HRc⟩ : ∃ cf, Hid (cf = readCfg s) ∧ Hid (cf.clients = q2) ∧ Hid (RdSt w (w7.setCell ⟨B + 1 + 1, 7, none⟩ (.string tx)) B (restCfg s) B cf (.slice none 0 0) (.slice none 0 0) [] []) := by
    refine ⟨_, ?_, ?_, HR.out⟩
    · have e0 := Q0.out
      have e1 := Q1.out
      have e2 := Q2.out
      have e3 := Q3.out
      have e4 := Q4.out
      have e5 := Q5.out
      have e6 := Q6.out
      have e7 := HTX.out
      subst e0 e1 e2 e3 e4 e5 e6
      subst e7
      rfl
    · rfl
  clear HR
  have HS8 : Hid ((restCfg s).size ≤ 3000) := by
    show (restCfg s).size ≤ 3000
    unfold restCfg
    rw [tlN_size, tl_size, tlN_size]; omega
  have HRS : Hid (readScr s = ⟨readCfg s, (progsN (restCfg s) q2.toNat).1, picksN (progsN (restCfg s) q2.toNat).2 q2 (progsN (restCfg s) q2.toNat).2.size⟩) := by
    have e2 := Q2.out
    subst e2
    exact rfl
  obtain ⟨cl, rfl⟩ := Int.eq_ofNat_of_zero_le b20
  rw [Int.toNat_natCast] at HRS
  have hcl : cl < 4 := by omega
  generalize restCfg s = s8 at *
  clear b00 b01 b10 b11 b20 b21 b30 b31 b40 b41 b50 b51 b60 b61 Q0 Q1 Q2 Q3 Q4 Q5 Q6 HTX HSZ hs
  go_wp2_with fail
  refine clientsLoop w _ B cl s8 cf _ _ _ _ _ _ _ _ _ _ _ _ _ _ _ _ _ _ _ _ _ _ _ _ _ _ _ _ _ _ _ _ _ _ _ _ _ _ _ _ _ _ _ _ _ _ _ _ _ _ _ _ _ _ _ _ _ _ _ _ _ _ _ _ _ _ _ _ _ _ _ _ _ _ _ _ _ _  _ _ _ _ _ _ _ _ _ _ _ _ _ _ _ _ _ _ _ _ _ _ _ _ _ _ _ _ _ _ _ _ _ _ _ _ _ _ _ _ _ _ _ _ _ _ _ _ _ _ _ _ _ _ _ _ _ _ _ _ _ _ _ _ _  _ ?_ HRc HS8.out hcl
  clear HRc c7 c2 f7
  rintro v8 lim _ _ _ _ _ _ _ _ _ _ _ _ _ _ _ _ _ _ _ _ _ _ _ _ _ _ _ _ _ _ _ _ _ _ _ _ _ _ _ _ _ _ _ _ _ _ _ _ _ _ _ _ _ _ _ _ _ _ _ _ _ _ _ _ _  w11 HR
  have HRP : Hid ((progsN s8 cl).2.size ≤ 3000) := Nat.le_trans (progsN_size s8 cl) HS8.out
  generalize (progsN s8 cl).2 = rp at *
  generalize (progsN s8 cl).1 = ps at *
  go_wp2_with fail
  refine picksLoop w w11 B cl lim rp cf v8 ps _ _ _ _ _ _ _ _ _ _ _ _ _ _ _ _ _ _ _ _ _ _ _ _ _ _ _ _ _ _ _ _ _ _ _ _ _ _ _ _ _ _ _ _ _ _ _ _ _ _ _ _ _ _ _ _ _ _ _ _ _ _ _ _ _ _ _ _ _ _ _ _ _ _ _ _ _ _ _ _ _ _ _ _ _ _ _ _ _ _ _ _ _ _ _ _ _ _ _ _ _ _ _ _ _ _ _ _ _ _ _ _ _ _ _ _ _ _ _ _ _ _ _ _  _ _ _ _ _ _ _ _ _ _ _ _ _ _ _ _ _ _ _ _  _ ?_ HR HRP.out hcl HCC
  clear HR
  rintro v9 _ _ _ _ _ _ _ _ _ _ _ _ _ _ _ _ _ _ _ _  w12 HR
  have HPI := Lib.hid HR.out.bld.picks
  have HPG := Lib.hid HR.out.bld.progs
  obtain ⟨A8, x8, rfl⟩ := own_slice (Classical.choose_spec HPG.out).1
  obtain ⟨A9, x9, rfl⟩ := own_slice HPI.out
  have n0 := HR.out.bld.c0
  have n1 := HR.out.bld.c1
  have n2 := HR.out.bld.c2
  have n3 := HR.out.bld.c3
  have n4 := HR.out.bld.c4
  have n5 := HR.out.bld.c5
  have n6 := HR.out.bld.c6
  have n7 := HR.out.bld.c7
  have n8 := HR.out.bld.c8
  have n9 := HR.out.bld.c9
  have r0 : w12.cell? ⟨B + 1, 0, none⟩ = some (.int .i64 0) := by rw [cell_of_row _ _ 0 _ _ _ HR.out.res]; rfl
  have z0 : w12.frozen? ⟨B + 1, 0, none⟩ = false := (show ElemT w12 (B + 1) 28 from ⟨_, HR.out.res⟩).frozen 0
  have r1 : w12.cell? ⟨B + 1, 1, none⟩ = some (.int .u64 0) := by rw [cell_of_row _ _ 1 _ _ _ HR.out.res]; rfl
  have z1 : w12.frozen? ⟨B + 1, 1, none⟩ = false := (show ElemT w12 (B + 1) 28 from ⟨_, HR.out.res⟩).frozen 1
  have r2 : w12.cell? ⟨B + 1, 2, none⟩ = some (.int .i64 0) := by rw [cell_of_row _ _ 2 _ _ _ HR.out.res]; rfl
  have z2 : w12.frozen? ⟨B + 1, 2, none⟩ = false := (show ElemT w12 (B + 1) 28 from ⟨_, HR.out.res⟩).frozen 2
  have r3 : w12.cell? ⟨B + 1, 3, none⟩ = some (.int .i64 0) := by rw [cell_of_row _ _ 3 _ _ _ HR.out.res]; rfl
  have z3 : w12.frozen? ⟨B + 1, 3, none⟩ = false := (show ElemT w12 (B + 1) 28 from ⟨_, HR.out.res⟩).frozen 3
  have r4 : w12.cell? ⟨B + 1, 4, none⟩ = some (.int .i64 0) := by rw [cell_of_row _ _ 4 _ _ _ HR.out.res]; rfl
  have z4 : w12.frozen? ⟨B + 1, 4, none⟩ = false := (show ElemT w12 (B + 1) 28 from ⟨_, HR.out.res⟩).frozen 4
  have r5 : w12.cell? ⟨B + 1, 5, none⟩ = some (.int .i64 0) := by rw [cell_of_row _ _ 5 _ _ _ HR.out.res]; rfl
  have z5 : w12.frozen? ⟨B + 1, 5, none⟩ = false := (show ElemT w12 (B + 1) 28 from ⟨_, HR.out.res⟩).frozen 5
  have r6 : w12.cell? ⟨B + 1, 6, none⟩ = some (.int .i64 0) := by rw [cell_of_row _ _ 6 _ _ _ HR.out.res]; rfl
  have z6 : w12.frozen? ⟨B + 1, 6, none⟩ = false := (show ElemT w12 (B + 1) 28 from ⟨_, HR.out.res⟩).frozen 6
  have r7 : w12.cell? ⟨B + 1, 7, none⟩ = some (.string ⟨#[]⟩) := by rw [cell_of_row _ _ 7 _ _ _ HR.out.res]; rfl
  have z7 : w12.frozen? ⟨B + 1, 7, none⟩ = false := (show ElemT w12 (B + 1) 28 from ⟨_, HR.out.res⟩).frozen 7
  have r8 : w12.cell? ⟨B + 1, 8, none⟩ = some (.slice none 0 0) := by rw [cell_of_row _ _ 8 _ _ _ HR.out.res]; rfl
  have z8 : w12.frozen? ⟨B + 1, 8, none⟩ = false := (show ElemT w12 (B + 1) 28 from ⟨_, HR.out.res⟩).frozen 8
  have r9 : w12.cell? ⟨B + 1, 9, none⟩ = some (.slice none 0 0) := by rw [cell_of_row _ _ 9 _ _ _ HR.out.res]; rfl
  have z9 : w12.frozen? ⟨B + 1, 9, none⟩ = false := (show ElemT w12 (B + 1) 28 from ⟨_, HR.out.res⟩).frozen 9
  go_wp2_with fail
  refine bodyPost_ret (v := scrVal cf (.slice A8 ps.length x8) (.slice A9 (picksN rp cl rp.size).length x9)) (by simp [results, Try.results12, go_sem, r0, r1, r2, r3, r4, r5, r6, r7, r8, r9]) rfl ⟨_, rfl, ?_, ?_⟩
  · rw [HRS.out, ← HCF.out]
    have ht : ElemT w12 (B + 1) 28 := ⟨_, HR.out.res⟩
    have hne : B + 1 ≠ B + 1 + 1 := by omega
    with_reducible refine (HR.out.bld.but (q := B + 1) ht hne ?c1).scr
    case c1 =>
      iterate 9 with_reducible refine grown_trans ?_ (set_grown _ _ _ _)
      with_reducible exact set_grown _ _ _ _
  · rw [HBB.out]
    have hbel := HR.out.bel
    iterate 10 with_reducible refine Below.setCell ?_ (by show B ≤ B + 1; omega) _
    exact hbel
end Go.Proofs.Ytcicememljlafaa
