import Derived.Test.YtcicememljlafaaR5c
import Derived.Deep.AppendLies
import Derived.Deep.RegionLaw
import Derived.IntWalk
namespace Go.Proofs.Ytcicememljlafaa
open Go.RowKit

def loopsOf : Code → List Code
  | .loop c => [c]
  | .seq a b => loopsOf a ++ loopsOf b
  | .block _ c => loopsOf c
  | .scope c => loopsOf c
  | .cond _ a b => loopsOf a ++ loopsOf b
  | _ => []
noncomputable def body12d : Code := (((Try.f12.body.map loopsOf).getD [])[1]?).getD .skip
def OnlyExit (n : Nat) (R : Act → World → Prop) : Exit → Act → World → Prop
  | .exit m, a, w => m = n ∧ R a w
  | _, _, _ => False
theorem OnlyExit.use {n : Nat} {Q : Exit → Act → World → Prop} : ∀ e a w, OnlyExit n (Q (.exit n)) e a w → Q e a w := by
  intro e a w h
  cases e <;> first | exact h.elim | (obtain ⟨rfl, h⟩ := h; exact h)
theorem picksN_len (s : ByteArray) (c : Int) (k : Nat) : (picksN s c k).length = k := by simp [picksN]
theorem picksN_succ (s : ByteArray) (c : Int) (k : Nat) : picksN s c (k + 1) = picksN s c k ++ [hd (tlN s k) % (c + 1)] := by simp [picksN, List.range_succ]

theorem pick_pushed {w0 W w1 : World} {B lim : Nat} {s : ByteArray} {cf : CfgV} {v8 v9 v1 : Value} {ps : List (List OpV)} {ks : List Int} {x : Int} {O : Obj} {k : Nat}
    (h : RdSt w0 W B s lim cf v8 v9 ps ks) (hk : ks.length = k)
    (hown : w1.ownsRow B 3 1 v1 (k + 1) (ks.map (Value.int .i64) ++ [.int .i64 x])) (hg : (W.alloc O).grownBy w1 v9.ownBlock) :
    w1.cell? ⟨B + 1 + 1, 9, none⟩ = some v9 ∧ w1.frozen? ⟨B + 1 + 1, 9, none⟩ = false ∧ RdSt w0 (w1.setCell ⟨B + 1 + 1, 9, none⟩ v1) B s lim cf v8 v1 ps (ks ++ [x]) := by
  subst hk
  have ha := h.alloc O
  have h3 := h.lt3
  have h9a := ha.bld.picks
  have hne : ∀ {q : Nat} {t : TypeId}, ElemT (W.alloc O) q t → t ≠ 3 → w1.heap[q]? = (W.alloc O).heap[q]? := fun {q t} ht hn => hg.block q ht.lt (fun e => absurd rfl (ht.ne (own_elem h9a e.symm) hn))
  have hk0 := hne ha.str.elem (by decide)
  have hk1 : w1.heap[B + 1]? = (W.alloc O).heap[B + 1]? := hne (t := 28) ⟨_, ha.res⟩ (by decide)
  have hk2 := hne ha.bld.t (by decide)
  have hk3 := hne ha.fnt (by decide)
  have hb := Bld.push_pick ha.bld hown hg
  refine ⟨(World.cell?_of_block (a := ⟨B + 1 + 1, 9, none⟩) hk2).trans ha.bld.c9, (ha.bld.t.keep hk2).frozen 9, ?_, ?_, hb, ?_, ?_⟩
  · exact (ha.str.grownN hk0).grownN (Below.heap_setCell _ _ _ _ (by show B ≠ B + 1 + 1; omega))
  · exact (Below.heap_setCell _ _ _ _ (by show B + 1 ≠ B + 1 + 1; omega)).trans (hk1.trans ha.res)
  · exact (Below.heap_setCell _ _ _ _ (by show B + 1 + 1 + 1 ≠ B + 1 + 1; omega)).trans (hk3.trans ha.fnb)
  · refine (ha.bel.trans ⟨hg.os, hg.tape, hg.output, hg.size, fun k hk => hg.block k (by simp; omega) (fun e => ?_)⟩).setCell (by show B ≤ B + 1 + 1; omega) _
    have := (World.ownsRow.lt h9a k e.symm).1
    omega
theorem RdSt.drew {w0 W : World} {B lim : Nat} {s : ByteArray} {cf : CfgV} {v8 v9 : Value} {ps : List (List OpV)} {ks : List Int} (h : RdSt w0 W B s lim cf v8 v9 ps ks) : RdSt w0 W.drew B s lim cf v8 v9 ps ks :=
  h.other (Mild.drewN W 1 lim) fun _ _ => rfl
theorem news_one' (W : World) (x : Int) (t : TypeId) : ∀ j u, ([Value.int .i64 x] : List Value)[j]? = some u → (W.alloc (.cells #[.int .i64 x] t)).cell? ((⟨W.heap.size, 0, none⟩ : Addr).add j) = some u := news_val W _ t

set_option maxHeartbeats 4000000 in
set_option maxRecDepth 100000 in
theorem picksLoop (w W : World) (B cl lim : Nat) (rp : ByteArray) (cf : CfgV) (v8 : Value) (ps : List (List OpV))
    (c0 c2 c5 c7 c8 c9 c10 c11 c12 c13 c14 c15 c16 c17 c18 c19 c20 c21 c22 c23 c24 c25 c26 c27 c28 c29 c30 c31 c32 c33 c34 c35 c36 c37 c38 c39 c40 c41 c42 c43 c44 c45 c46 c47 c48 c49 c50 c51 c52 c53 c54 c55 c56 c57 c58 c59 c60 c61 c62 c63 c64 c65 c66 c67 c68 c69 c70 c71 c72 c73 c74 c75 c76 c77 c78 c79 c80 c81 c82 c83 c84 c85 c86 c87 c88 c89 c90 c91 c92 c93 c94 c95 c96 c97 c98 c99 c100 c101 c102 c103 c104 c105 c106 c107 c108 c109 c110 c111 c112 c113 c114 c115 c116 c117 c118 c119 c120 c121 c122 c123 c124 c125 c126 c147 : Value) (u127 u128 u129 u130 u131 u132 u133 u134 u135 u136 u137 u138 u139 u140 u141 u142 u143 u144 u145 u146 : Value) (Q : Exit → Act → World → Prop)
    (hx : ∀ (v9 : Value) (u127 u128 u129 u130 u131 u132 u133 u134 u135 u136 u137 u138 u139 u140 u141 u142 u143 u144 u145 u146 : Value) (W' : World), Hid (RdSt w W' B (tlN rp rp.size) lim cf v8 v9 ps (picksN rp cl rp.size)) → Q (.exit 7) ⟨List.toArray (c0 :: (.pointer (some ⟨B, 0, none⟩)) :: c2 :: (.pointer (some ⟨B + 1 + 1, 0, none⟩)) :: (.pointer (some ⟨B + 1 + 1 + 1, 0, none⟩)) :: c5 :: (.pointer (some ⟨B + 1 + 1, 0, none⟩)) :: c7 :: c8 :: c9 :: c10 :: c11 :: c12 :: c13 :: c14 :: c15 :: c16 :: c17 :: c18 :: c19 :: c20 :: c21 :: c22 :: c23 :: c24 :: c25 :: c26 :: c27 :: c28 :: c29 :: c30 :: c31 :: c32 :: c33 :: c34 :: c35 :: c36 :: c37 :: c38 :: c39 :: c40 :: c41 :: c42 :: c43 :: c44 :: c45 :: c46 :: c47 :: c48 :: c49 :: c50 :: c51 :: c52 :: c53 :: c54 :: c55 :: c56 :: c57 :: c58 :: c59 :: c60 :: c61 :: c62 :: c63 :: c64 :: c65 :: c66 :: c67 :: c68 :: c69 :: c70 :: c71 :: c72 :: c73 :: c74 :: c75 :: c76 :: c77 :: c78 :: c79 :: c80 :: c81 :: c82 :: c83 :: c84 :: c85 :: c86 :: c87 :: c88 :: c89 :: c90 :: c91 :: c92 :: c93 :: c94 :: c95 :: c96 :: c97 :: c98 :: c99 :: c100 :: c101 :: c102 :: c103 :: c104 :: c105 :: c106 :: c107 :: c108 :: c109 :: c110 :: c111 :: c112 :: c113 :: c114 :: c115 :: c116 :: c117 :: c118 :: c119 :: c120 :: c121 :: c122 :: c123 :: c124 :: c125 :: c126 :: u127 :: u128 :: u129 :: u130 :: u131 :: u132 :: u133 :: u134 :: u135 :: u136 :: u137 :: u138 :: u139 :: u140 :: u141 :: u142 :: u143 :: u144 :: u145 :: u146 :: c147 :: []), []⟩ W')
    (HP : Hid (RdSt w W B rp lim cf v8 (.slice none 0 0) ps [])) (hst : rp.size ≤ 3000) (hm4 : cl < 4) (HCC : Hid (cf.clients = cl)) :
    Code.wp Try.prog (Code.loop body12d) Q ⟨List.toArray (c0 :: (.pointer (some ⟨B, 0, none⟩)) :: c2 :: (.pointer (some ⟨B + 1 + 1, 0, none⟩)) :: (.pointer (some ⟨B + 1 + 1 + 1, 0, none⟩)) :: c5 :: (.pointer (some ⟨B + 1 + 1, 0, none⟩)) :: c7 :: c8 :: c9 :: c10 :: c11 :: c12 :: c13 :: c14 :: c15 :: c16 :: c17 :: c18 :: c19 :: c20 :: c21 :: c22 :: c23 :: c24 :: c25 :: c26 :: c27 :: c28 :: c29 :: c30 :: c31 :: c32 :: c33 :: c34 :: c35 :: c36 :: c37 :: c38 :: c39 :: c40 :: c41 :: c42 :: c43 :: c44 :: c45 :: c46 :: c47 :: c48 :: c49 :: c50 :: c51 :: c52 :: c53 :: c54 :: c55 :: c56 :: c57 :: c58 :: c59 :: c60 :: c61 :: c62 :: c63 :: c64 :: c65 :: c66 :: c67 :: c68 :: c69 :: c70 :: c71 :: c72 :: c73 :: c74 :: c75 :: c76 :: c77 :: c78 :: c79 :: c80 :: c81 :: c82 :: c83 :: c84 :: c85 :: c86 :: c87 :: c88 :: c89 :: c90 :: c91 :: c92 :: c93 :: c94 :: c95 :: c96 :: c97 :: c98 :: c99 :: c100 :: c101 :: c102 :: c103 :: c104 :: c105 :: c106 :: c107 :: c108 :: c109 :: c110 :: c111 :: c112 :: c113 :: c114 :: c115 :: c116 :: c117 :: c118 :: c119 :: c120 :: c121 :: c122 :: c123 :: c124 :: c125 :: c126 :: u127 :: u128 :: u129 :: u130 :: u131 :: u132 :: u133 :: u134 :: u135 :: u136 :: u137 :: u138 :: u139 :: u140 :: u141 :: u142 :: u143 :: u144 :: u145 :: u146 :: c147 :: []), []⟩ W := by
  have HX := Lib.hid hx
  clear hx
  refine wp_mono (Q := OnlyExit 7 (Q (.exit 7))) ?_ OnlyExit.use
  conv => arg 2; arg 1; whnf
  go_loopw [] (fun wr => Hid (∃ (k : Nat) (v9 : Value), k ≤ rp.size ∧ RdSt w wr B (tlN rp k) lim cf v8 v9 ps (picksN rp cl k))) (fun wr => match wr.cell? ⟨B, 0, none⟩ with | some (.string s) => s.size | _ => 0)
  case atStart => exact ⟨0, _, Nat.zero_le _, HP.out⟩
  case round =>
    clear HP
    obtain ⟨k, v9, hk, hrd⟩ := hrel.out
    have HP := Lib.hid hrd
    have hsz := tlN_size rp k
    have n1 := hrd.str.cell
    have n2 : wr.cell? ⟨B + 1 + 1, 2, none⟩ = some (.int .i64 cl) := by rw [← HCC.out]; exact hrd.bld.c2
    have HO := Lib.hid hrd.bld.picks
    obtain ⟨A9, c9, rfl⟩ := own_slice hrd.bld.picks
    rw [picksN_len] at *
    have n9 := HP.out.bld.c9
    have nf := HP.out.fn
    clear hrd hrel
    by_cases hlt : k < rp.size
    · have hse : (tlN rp k).toList.isEmpty = false := by rw [toList_empty, decide_eq_false_iff_not]; omega
      have hk2 : (k : Int) < 32768 := by omega
      clear HX
      have hw1 : IntKind.i64.wrap ((cl : Int) + 1) = (cl : Int) + 1 := IntWalk.i64_in _ (by omega)
      have hw2 : 0 ≤ (cl : Int) + 1 := by omega
      have HTL := Lib.hid (tlN_succ rp k)
      have HPK := Lib.hid (picksN_succ rp cl k)
      have HPL := Lib.hid (picksN_len rp cl k)
      have HPd := Lib.hid (HP.out.drew)
      have HNX := Lib.hid (nextFn ((cl : Int) + 1) B 9 (tlN rp k) wr.drew HPd.out.str (by omega) (by omega) (by omega))
      have hB : B ≤ wr.heap.size := by have := HP.out.lt3; omega
      obtain ⟨i0, hi, hz0, hz1, hz2⟩ := info_parts int_info
      generalize hd (tlN rp k) % ((cl : Int) + 1) = x at *
      generalize tl (tlN rp k) = s2 at *
      go_wp2_with fail
      go_region_law (first
        | (go_simp; go_at_call 26; refine HNX.out.mono ?_; rintro e w10 ⟨rfl, hb, hg⟩; (have HP1 := Lib.hid (HPd.out.next hb hg)); (have m9 := HP1.out.bld.c9); (have m2 : w10.cell? ⟨B + 1 + 1, 2, none⟩ = some (.int .i64 cl) := by rw [← HCC.out]; exact HP1.out.bld.c2); (have HO1 : Hid (w10.ownsRow B 3 1 (.slice A9 k c9) k ((picksN rp cl k).map (Value.int .i64))) := by have := HP1.out.bld.picks; rw [HPL.out] at this; exact this); (have m9a : (w10.alloc (Obj.cells #[Value.int IntKind.i64 x] 3)).cell? ⟨B + 1 + 1, 9, none⟩ = some (.slice A9 k c9) := (HP1.out.alloc _).bld.c9); (have hgz : wr.heap.size ≤ w10.heap.size := hg.size); clear hb hg)
        | (refine step_append_lies _ rfl (.tmp 136) (.tmp 144) 26 rfl B 3 i0 (.int .i64 0) 1 8 Try.underlying26 hi hz0 hz1 hz2 rfl (by decide) (.slice A9 k c9) k ((picksN rp cl k).map (Value.int .i64)) (by simp [Act.eval, Act.put]) (HO1.out.alloc _) _ 1 1 [.int .i64 x] (by simp [Act.eval, Act.put]) rfl (news_one' _ _ _) (one_one _) (by omega) (by unfold maxLen; omega) (by omega) (by simp; omega) _ rfl ?_; intro g cap w11 hown hgrow _ _; (obtain ⟨q1, q2, q3⟩ := pick_pushed HP1.out HPL.out hown hgrow); (have HA := Lib.hid q3); clear hown hgrow q3))
      all_goals
        go_wp2_with fail
        go_roundw
        case rel => exact ⟨k + 1, _, by omega, by rw [HTL.out, HPK.out]; exact HA.out⟩
        case measure =>
          rw [HA.out.str.cell, n1]
          show s2.size < (tlN rp k).size
          have := tlN_size rp (k + 1)
          rw [HTL.out] at this
          omega
    · obtain rfl : k = rp.size := by omega
      have hse : (tlN rp rp.size).toList.isEmpty = true := by rw [toList_empty, decide_eq_true_eq]; omega
      go_wp2_with fail
      exact ⟨rfl, HX.out _ _ _ _ _ _ _ _ _ _ _ _ _ _ _ _ _ _ _ _ _ _ HP⟩
end Go.Proofs.Ytcicememljlafaa
