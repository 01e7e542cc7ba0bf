/- Merged texts: X1, X2, X3, X4. -/
import Derived.Test.YtbjadgggpkbjmaaGreatGg
import Derived.Test.YtbjadgggpkbjmaaGreatRz3
import Derived.Test.YtbjadgggpkbjmaaGreatRa1
import Derived.Test.YtbjadgggpkbjmaaGreatGj
import Derived.Test.YtbjadgggpkbjmaaGreatGa
import Derived.Test.YtbjadgggpkbjmaaGreatGh
namespace Go.Proofs.YtbjadgggpkbjmaaGreat
open Go.RowKit
open Runes (bs bt)

def xCfg : CfgV := ⟨16, 1, 0, 0, 1, 1, 1, ⟨#[]⟩⟩
def zCfg : CfgV := ⟨16, 1, 1, 0, 1, 1, 1, ⟨#[99]⟩⟩
def zOp : OpV := ⟨7, 3, 0, 1, 0, 0, ⟨#[]⟩⟩
def xS : ScrV := ⟨xCfg, [], []⟩
def zS (ks : List Int) : ScrV := ⟨zCfg, [[zOp]], ks⟩
theorem valid_none : Runes.valid ⟨#[]⟩ = true := (Runes.valid_spec ⟨#[]⟩).stop (by decide)
theorem valid_c : Runes.valid ⟨#[99]⟩ = true := by
  have h := (Runes.valid_spec ⟨#[99]⟩).next (n := 1) (by decide) (by decide) (by decide)
  exact h.stop (by decide)
theorem cfg_x : cfgErr xCfg = 0 := by
  unfold cfgErr
  rw [if_pos (by unfold CfgIn xCfg; decide), if_neg (by decide), if_pos (show Runes.valid xCfg.text = true from valid_none)]
theorem cfg_z : cfgErr zCfg = 0 := by
  unfold cfgErr
  rw [if_pos (by unfold CfgIn zCfg; decide), if_neg (by decide), if_pos (show Runes.valid zCfg.text = true from valid_c)]
theorem plain_z : PlainOp zOp :=
  ⟨by decide, by simp [okF, uses, fieldsOf, zOp, fitF], by simp [okF, uses, fieldsOf, zOp, fitF], by simp [okF, uses, fieldsOf, zOp, fitF], by simp [okF, uses, fieldsOf, zOp, zeroF], by simp [okF, uses, fieldsOf, zOp, zeroF], by
    unfold okF; rw [if_neg (by decide)]; unfold zeroF; rw [if_neg (by decide), if_neg (by decide), if_neg (by decide), if_neg (by decide), if_neg (by decide)]; rfl⟩
theorem ok_x : ScrOk xS := ⟨cfg_x, rfl, (fun p hp => by cases hp), by decide, (fun k hk => by cases hk), by rw [encScr_len]; decide⟩
theorem chk_x : chkScr xS = 0 := (chk_iff _).2 ok_x
theorem ty_x : ScrTy xS := fun p hp => by cases hp
theorem sz_x : ScrSz xS := ⟨by decide, by decide, (fun p hp => by cases hp), by decide, (fun p hp => by cases hp)⟩
theorem sd_x : Sized xS := ⟨by decide, by decide, fun p hp => by cases hp⟩
theorem z_len (ks : List Int) : (encScr (zS ks)).length = 24 + ks.length := by
  rw [encScr_len]
  have h1 : (zS ks).cfg.text.size = 1 := rfl
  have h2 : (encProgs (zS ks).progs).length = 8 := show (encProgs [[zOp]]).length = 8 by decide
  rw [h1, h2]; show _ + ks.length = _; omega
theorem progs_z : progsErr [[zOp]] = 0 := by
  have h : progErr [zOp] = 0 := (progErr_iff _).2 ⟨by decide, fun o ho => by simp at ho; subst ho; exact plain_z⟩
  simp [progsErr, h]
theorem chk_z (ks : List Int) : chkScr (zS ks) = open Classical in if 65535 < ks.length then 5 else if ¬ ∀ k ∈ ks, 0 ≤ k ∧ k ≤ 1 then 2 else if 65536 < 24 + ks.length then 5 else 0 := by
  have h1 : (((zS ks).progs.length : Int) ≠ (zS ks).cfg.clients) = False := by simp [zS, zCfg]
  have h2 : progsErr (zS ks).progs = 0 := progs_z
  have h3 : cfgErr (zS ks).cfg = 0 := cfg_z
  unfold chkScr
  rw [h3, h2, z_len, if_neg (by simp), if_neg (by rw [h1]; simp), if_neg (by simp)]
  rfl
theorem sz_z (ks : List Int) (h : ks.length ≤ 9223372036854775807) : ScrSz (zS ks) :=
  ⟨by show (1 : Nat) ≤ _; decide, by show (1 : Nat) ≤ _; decide, (fun p hp => by simp [zS] at hp; subst hp; decide), h, (fun p hp o ho => by simp [zS] at hp; subst hp; simp at ho; subst ho; decide)⟩
theorem sd_z (ks : List Int) (h : ks.length ≤ 9223372036854775807) : Sized (zS ks) :=
  ⟨by show (1 : Nat) ≤ _; decide, h, fun p hp => by simp [zS] at hp; subst hp; decide⟩
theorem chk_two : chkScr (zS [2]) = 2 := by
  rw [chk_z, if_neg (by decide), if_pos]
  intro h; have := h 2 (by simp); omega
theorem zeros_in (n : Nat) : ∀ k ∈ List.replicate n (0 : Int), 0 ≤ k ∧ k ≤ 1 := by
  intro k hk; rw [List.mem_replicate] at hk; omega
theorem chk_zeros (n : Nat) (h : 65512 < n) : chkScr (zS (List.replicate n 0)) = 5 := by
  rw [chk_z, List.length_replicate]
  by_cases h1 : 65535 < n
  · rw [if_pos h1]
  · rw [if_neg h1, if_neg (by rw [Classical.not_not]; exact zeros_in n), if_pos (by omega)]
theorem chk_fits (n : Nat) (h : n ≤ 65512) : chkScr (zS (List.replicate n 0)) = 0 := by
  rw [chk_z, List.length_replicate, if_neg (by omega), if_neg (by rw [Classical.not_not]; exact zeros_in n), if_neg (by omega)]
theorem enc_x : bs (encScr xS) = ⟨#[0, 16, 0, 0, 0, 1, 0, 0, 1, 1, 1, 0, 0, 0, 0]⟩ := by decide
theorem same_yes {α : Type} (x : α) : same x x = true := by simp [same]
end Go.Proofs.YtbjadgggpkbjmaaGreat
namespace Go.Ab
open Go.RowKit
theorem vr_eq {φ : Phi} {v : Value} (h : Plain v) : ∀ {u : Value}, VR φ v u → u = v := by
  induction h with
  | bool => intro u hu; cases hu; rfl
  | int => intro u hu; cases hu; rfl
  | string => intro u hu; cases hu; rfl
  | ptrNil => intro u hu; cases hu; rfl
  | slNil hk => intro u hu; cases hu; rfl
  | mapNil => intro u hu; cases hu; rfl
  | func =>
    intro u hu
    cases hu with
    | func hf h1 _ h3 _ =>
      cases hf
      rw [Array.eq_empty_of_size_eq_zero h1.symm, Array.eq_empty_of_size_eq_zero h3.symm]
  | nilFunc => intro u hu; cases hu; rfl
  | nilIface => intro u hu; cases hu; rfl
  | iface _ ih => intro u hu; cases hu with | iface hv => rw [ih hv]
  | @agg xs h ih =>
    intro u hu
    cases hu with
    | @agg _ ys h1 h2 =>
      congr 1
      refine Array.ext h1.symm fun i hi hj => ?_
      exact ih i xs[i] (Array.getElem?_eq_getElem hj) (h2 i _ _ (Array.getElem?_eq_getElem hj) (Array.getElem?_eq_getElem hi))
  | @tuple xs h ih =>
    intro u hu
    cases hu with
    | @tuple _ ys h1 h2 =>
      congr 1
      refine Array.ext h1.symm fun i hi hj => ?_
      exact ih i xs[i] (Array.getElem?_eq_getElem hj) (h2 i _ _ (Array.getElem?_eq_getElem hj) (Array.getElem?_eq_getElem hi))
/-- The world may go on where no block from the base on is touched. -/
theorem HR.move {w0 w w' : World} {base : Nat} {φ : Phi} {h : AHeap} (H : HR w0 base φ h w) (hk : ∀ b, base ≤ b → b < w.heap.size → w'.heap[b]? = w.heap[b]?) (hs : w.heap.size ≤ w'.heap.size) : HR w' base φ h w' where
  blocks b o hg ho := by
    have hB := H.blocks b o hg ho
    unfold BlockR at *
    cases o with
    | cells e n x ro kin t =>
      obtain ⟨c, arr, h1, h2, h3⟩ := hB
      exact ⟨c, arr, h1, (hk c (H.lo b c h1).1 (H.lo b c h1).2).trans h2, h3⟩
    | obj o =>
      obtain ⟨c, o', h1, h2, h3⟩ := hB
      exact ⟨c, o', h1, (hk c (H.lo b c h1).1 (H.lo b c h1).2).trans h2, h3⟩
    | dead => trivial
  fresh := H.fresh
  lo b c hc := ⟨(H.lo b c hc).1, Nat.lt_of_lt_of_le (H.lo b c hc).2 hs⟩
  apart := H.apart
  below := Below.refl _ _
  base_le := Nat.le_trans H.base_le (Nat.le_trans H.below.size hs)
  ghost := H.ghost
end Go.Ab
namespace Go.Proofs.YtbjadgggpkbjmaaGreat
open Go.RowKit Go.Ab
open Runes (bs bt)
open Closed

theorem read_none (w : World) : Calls Tryz.prog 4 #[.string ⟨#[]⟩] w (fun e w' => e = .returned (scrVal xCfg (.slice none 0 0) (.slice none 0 0)) ∧ Below w.heap.size w w') := by
  refine (ra.run (us := #[.string ⟨#[]⟩]) (empty_hr w) ?_).mono ?_
  · exact AsR.one (x := .string ⟨#[]⟩) .string
  · rintro e w' ⟨u, φ, rfl, hu, hr, _⟩
    refine ⟨?_, hr.below⟩
    rw [vr_eq (v := ra.zV) (plain_of (by kernel_rfl)) hu]
    rfl
/-- A row of the abstract heap. -/
theorem row_at {w0 w : World} {base : Nat} {φ : Phi} {h : AHeap} (H : HR w0 base φ h w) {b c : Nat} (hb : φ b = some c) {e : TypeId} {n : Nat} {x ro : Bool} {kin : List Nat} {t : T Value} (hg : h.blocks.get b = some (.cells e n x ro kin t)) :
    c < w.heap.size ∧ ∃ arr, w.heap[c]? = some (.cells arr e (0, 0)) ∧ RowR φ n x t arr := by
  have hB := H.blocks b _ (H.real hb) hg
  obtain ⟨c', arr, h1, h2, h3, _⟩ := hB
  rw [hb] at h1; injection h1 with h1; subst h1
  exact ⟨(H.lo b c hb).2, arr, h2, h3⟩
theorem cell_at {w : World} {c : Nat} {arr : Array Value} {e : TypeId} (h : w.heap[c]? = some (.cells arr e (0, 0))) (i : Nat) : w.cell? ⟨c, i, none⟩ = arr[i]? := by
  unfold World.cell?; rw [h]; rfl
/-- The row of the programs of z, in rows of their own types. -/
def ZP (W : World) (A : Option Addr) : Prop :=
  ∃ b1 b2 c arr1 arr2, A = some ⟨b1, 0, none⟩ ∧ W.heap[b1]? = some (.cells arr1 41 (0, 0)) ∧ W.heap[b2]? = some (.cells arr2 40 (0, 0)) ∧ arr1[0]? = some (.slice (some ⟨b2, 0, none⟩) 1 c) ∧ OpAt W b2 (0 + 0 * 7) zOp
theorem lt_of_heap {W : World} {b : Nat} {o : Obj} (h : W.heap[b]? = some o) : b < W.heap.size := by
  rcases Nat.lt_or_ge b W.heap.size with hlt | hge
  · exact hlt
  · rw [Array.getElem?_eq_none hge] at h; cases h
theorem ZP.at_ {W : World} {A : Option Addr} (h : ZP W A) : ProgsAt W W.heap.size A [[zOp]] := by
  obtain ⟨b1, b2, c, arr1, arr2, rfl, h1, h2, h3, h4⟩ := h
  intro _
  refine ⟨b1, 0, rfl, lt_of_heap h1, fun j hj => ?_⟩
  have : j = 0 := by simp at hj; exact hj
  subst this
  refine ⟨_, c, (cell_at h1 _).trans h3, fun _ => ⟨b2, 0, rfl, lt_of_heap h2, fun j hj => ?_⟩⟩
  have : j = 0 := by simp at hj; exact hj
  subst this
  exact h4
theorem ZP.keep {W W' : World} {A : Option Addr} (h : ZP W A) (hk : ∀ (q : Nat) (e : TypeId) (arr : Array Value), W.heap[q]? = some (Obj.cells arr e (0, 0)) → e = 41 ∨ e = 40 → W'.heap[q]? = W.heap[q]?) : ZP W' A := by
  obtain ⟨b1, b2, c, arr1, arr2, rfl, h1, h2, h3, h4⟩ := h
  exact ⟨b1, b2, c, arr1, arr2, rfl, (hk b1 _ _ h1 (.inl rfl)).trans h1, (hk b2 _ _ h2 (.inr rfl)).trans h2, h3, h4.keep (hk b2 _ _ h2 (.inr rfl))⟩
/-- What the script z's value is in memory. -/
theorem z_read {w0 w : World} {base : Nat} {φ : Phi} {h : AHeap} {p k : Value} {cp ck : Nat} (H : HR w0 base φ h w) (hp : VR φ (Cut.s 25 0 1 cp) p) (hk : VR φ (Cut.s 29 0 2 ck) k)
    {x1 r1 x2 r2 x3 r3 : Bool} {k1 k2 k3 : List Nat} {n1 n2 n3 c1 : Nat} {t1 t2 t3 : T Value}
    (g1 : h.blocks.get 25 = some (.cells 41 n1 x1 r1 k1 t1)) (g2 : h.blocks.get 23 = some (.cells 40 n2 x2 r2 k2 t2)) (g3 : h.blocks.get 29 = some (.cells 3 n3 x3 r3 k3 t3))
    (e1 : t1.get 0 = some (Cut.s 23 0 1 c1)) (e20 : t2.get 0 = some (.int .u8 7)) (e21 : t2.get 1 = some (.int .i64 3)) (e22 : t2.get 2 = some (.int .i64 0)) (e23 : t2.get 3 = some (.int .i64 1)) (e24 : t2.get 4 = some (.int .u32 0))
    (e25 : t2.get 5 = some (.int .u8 0)) (e26 : t2.get 6 = some (.string ⟨#[]⟩)) (e30 : t3.get 0 = some (.int .i64 0)) (e31 : t3.get 1 = some (.int .i64 1)) :
    ∃ A cp' B ck', p = .slice A 1 cp' ∧ k = .slice B 2 ck' ∧ ZP w A ∧ Ints w w.heap.size B [0, 1] := by
  cases hp with
  | @sl _ _ _ _ cp' ha _ =>
  cases ha with
  | @mk _ b1 _ hb1 =>
  cases hk with
  | @sl _ _ _ _ ck' ha' _ =>
  cases ha' with
  | @mk _ b3 _ hb3 =>
  obtain ⟨l1, arr1, w1, _, _, r1'⟩ := row_at H hb1 g1
  obtain ⟨l3, arr3, w3, _, _, r3'⟩ := row_at H hb3 g3
  obtain ⟨_, u, hu, vu⟩ := r1' 0 _ e1
  cases vu with
  | @sl _ _ _ _ c' ha'' _ =>
  cases ha'' with
  | @mk _ b2 _ hb2 =>
  obtain ⟨l2, arr2, w2, _, _, r2'⟩ := row_at H hb2 g2
  refine ⟨_, cp', _, ck', rfl, rfl, ?_, ?_⟩
  · have key : ∀ i v, t2.get i = some v → Plain v → w.cell? ⟨b2, 0 + 0 * 7 + i, none⟩ = some v := by
      intro i v hv hpv
      obtain ⟨_, u, hu, vu⟩ := r2' i v hv
      rw [show 0 + 0 * 7 + i = i by omega, cell_at w2, hu, vr_eq hpv vu]
    exact ⟨b1, b2, c', arr1, arr2, rfl, w1, w2, hu, ⟨key 0 _ e20 .int, key 1 _ e21 .int, key 2 _ e22 .int, key 3 _ e23 .int, key 4 _ e24 .int, key 5 _ e25 .int, key 6 _ e26 .string⟩⟩
  · intro _
    refine ⟨b3, 0, rfl, l3, fun j hj => ?_⟩
    have hj' : j = 0 ∨ j = 1 := by simp at hj; omega
    rcases hj' with rfl | rfl
    · obtain ⟨_, u, hu, vu⟩ := r3' 0 _ e30
      rw [cell_at w3, hu, vr_eq .int vu]; rfl
    · obtain ⟨_, u, hu, vu⟩ := r3' 1 _ e31
      rw [show 0 + 1 = 1 from rfl, cell_at w3, hu, vr_eq .int vu]; rfl
def zBytes : ByteArray := ⟨#[0, 0, 1, 0, 0, 0, 0, 1, 2, 1, 6, 3, 0, 1, 0, 1]⟩
theorem read_z (w : World) : Calls Tryz.prog 4 #[.string zBytes] w (fun e w' => ∃ φ p k, e = .returned (scrVal zCfg p k) ∧ HR w w.heap.size φ rb.zH w' ∧ VR φ rb.zV (scrVal zCfg p k) ∧ VR φ (Cut.s 25 0 1 36893488147419103233) p ∧ VR φ (Cut.s 29 0 2 36893488147419103234) k) := by
  refine (rb.run (us := #[.string zBytes]) (empty_hr w) ?_).mono ?_
  · exact AsR.one (x := .string zBytes) .string
  · rintro e w' ⟨u, φ, rfl, hu, hr, _⟩
    have hu' := hu
    unfold rb.zV rb.rb0 at hu
    cases hu with
    | @agg _ ys h1 h2 =>
      have hs : ys.size = 10 := h1.symm
      obtain ⟨l⟩ := ys
      match l, hs with
      | [a0, a1, a2, a3, a4, a5, a6, a7, a8, a9], _ =>
        have g0 := vr_eq .int (h2 0 (Cut.i 16) a0 rfl rfl)
        have g1 := vr_eq .int (h2 1 (Cut.ik .u64 1) a1 rfl rfl)
        have g2 := vr_eq .int (h2 2 (Cut.i 1) a2 rfl rfl)
        have g3 := vr_eq .int (h2 3 (Cut.i 0) a3 rfl rfl)
        have g4 := vr_eq .int (h2 4 (Cut.i 1) a4 rfl rfl)
        have g5 := vr_eq .int (h2 5 (Cut.i 1) a5 rfl rfl)
        have g6 := vr_eq .int (h2 6 (Cut.i 1) a6 rfl rfl)
        have g7 := vr_eq .string (h2 7 (Cut.st [99]) a7 rfl rfl)
        have g8 := h2 8 _ a8 rfl rfl
        have g9 := h2 9 _ a9 rfl rfl
        subst g0 g1 g2 g3 g4 g5 g6 g7
        exact ⟨φ, a8, a9, rfl, hr, hu', g8, g9⟩
theorem zH_at : rb.zH.blocks.get 25 = some (Cut.c 41 1 false false [] (Cut.vL (Cut.s 23 0 1 147573952589676412929))) ∧ rb.zH.blocks.get 23 = some (Cut.c 40 7 false false [] rb.rb1) ∧ rb.zH.blocks.get 29 = some (Cut.c 3 2 false false [27] (Cut.vS (Cut.vL (Cut.i 1)) (Cut.i 0) Cut.vE)) :=
  ⟨by kernel_rfl, by kernel_rfl, by kernel_rfl⟩
end Go.Proofs.YtbjadgggpkbjmaaGreat
namespace Go.Proofs.YtbjadgggpkbjmaaGreat
open Go.RowKit Go.Ab
open Runes (bs bt)
open Closed

def boxed (W : World) (c : CfgV) (p k : Value) : World := scrSet (W.alloc zeroScr) W.heap.size c p k
theorem boxed_own (W : World) (c : CfgV) (p k : Value) : Below W.heap.size W (boxed W c p k) := scrSet_b c p k (below_box W _) (Nat.le_refl _)
theorem boxed_below {w W : World} (h : Below w.heap.size w W) (c : CfgV) (p k : Value) : Below w.heap.size w (boxed W c p k) := h.trans ((boxed_own W c p k).mono h.size)
theorem boxed_at (W : World) (c : CfgV) (p k : Value) : (boxed W c p k).heap[W.heap.size]? = some (scrBox c p k) := scrSet_a (c0 := cfg0) (p0 := .slice none 0 0) (k0 := .slice none 0 0) (heap_alloc_new _ _)
theorem boxed_size (W : World) (c : CfgV) (p k : Value) : (boxed W c p k).heap.size = W.heap.size + 1 := by simp [boxed, scrSet]

theorem rowR_of {φ : Phi} {l : List Value} {arr : Array Value} (h : AsR φ l.toArray arr) : RowR φ l.length true (T.ofList l) arr := by
  have hs : l.length = arr.size := by simpa using h.1
  refine ⟨by omega, fun _ => hs.symm, fun i v hv => ?_⟩
  rw [T.get_ofList] at hv
  obtain ⟨y, hy, hr⟩ := h.get (i := i) (x := v) (by simpa using hv)
  exact ⟨by rw [List.getElem?_eq_some_iff] at hv; exact hv.1, y, hy, hr⟩
def zList : List Value := [Cut.i 16, Cut.ik .u64 1, Cut.i 1, Cut.i 0, Cut.i 1, Cut.i 1, Cut.i 1, Cut.st [99], Cut.s 25 0 1 36893488147419103233, Cut.s 29 0 2 36893488147419103234]
theorem rb5_eq : rb.rb5 = Cut.c 28 10 true false [] (T.ofList zList) := by kernel_rfl
theorem zV_eq : rb.zV = .agg zList.toArray := rfl
structure ZMem (base : Nat) (W : World) (b : Nat) (p k : Value) : Prop where
  mem : ∃ φ, HR W base φ rz.zHeap W ∧ φ 30 = some b ∧ VR φ rb.zV (scrVal zCfg p k) ∧ VR φ (Cut.s 25 0 1 36893488147419103233) p ∧ VR φ (Cut.s 29 0 2 36893488147419103234) k
theorem ZMem.mk' {w w2 : World} {base : Nat} {φ : Phi} {p k : Value} (hr : HR w base φ rb.zH w2) (hu : VR φ rb.zV (scrVal zCfg p k)) (hp : VR φ (Cut.s 25 0 1 36893488147419103233) p) (hk : VR φ (Cut.s 29 0 2 36893488147419103234) k) :
    ZMem base (boxed w2 zCfg p k) w2.heap.size p k := by
  have hroom : rb.zH.room = true := by kernel_rfl
  have hnext : rb.zH.next = 30 := rfl
  have hext := ext_more (φ := φ) (h := rb.zH) (hr.free hroom) w2.heap.size 10
  have hP := hr.push hroom (scrBox zCfg p k) rb.rb5 10 (by
    rw [rb5_eq]
    refine ⟨w2.heap.size, _, by rw [more_to, if_pos rfl], Array.getElem?_push_size, ?_, ?_⟩
    · refine rowR_of (l := zList) ?_
      rw [zV_eq] at hu
      cases hu with
      | agg h1 h2 => exact AsR.mono hext ⟨h1, h2⟩
    · rw [more_size, if_pos rfl]; rfl)
  refine ⟨_, HR.move hP ?_ ?_, by rw [more_to, hnext, if_pos rfl], hu.mono hext, hp.mono hext, hk.mono hext⟩
  · intro b _ hb
    have hb' : b < w2.heap.size + 1 := by simpa using hb
    rcases Nat.lt_or_ge b w2.heap.size with h | h
    · rw [(boxed_own w2 zCfg p k).block b h]
      exact (Array.getElem?_push_lt h).symm ▸ (by simp [h])
    · have e : b = w2.heap.size := by omega
      subst e
      rw [boxed_at]
      simp
  · rw [boxed_size]; simp
theorem ZMem.move {base b : Nat} {W W' : World} {p k : Value} (h : ZMem base W b p k) (hk : ∀ b, base ≤ b → b < W.heap.size → W'.heap[b]? = W.heap[b]?) (hs : W.heap.size ≤ W'.heap.size) : ZMem base W' b p k := by
  obtain ⟨φ, h1, h2⟩ := h.mem
  exact ⟨φ, h1.move hk hs, h2⟩
theorem ZMem.below {base b : Nat} {W W' : World} {p k : Value} (h : ZMem base W b p k) (hb : Below W.heap.size W W') : ZMem base W' b p k := h.move (fun b _ hlt => hb.block b hlt) hb.size
theorem zHeap_at : rz.zHeap.blocks.get 25 = some (Cut.c 41 1 false false [] (Cut.vL (Cut.s 23 0 1 147573952589676412929))) ∧ rz.zHeap.blocks.get 23 = some (Cut.c 40 7 false false [] rb.rb1) ∧ rz.zHeap.blocks.get 29 = some (Cut.c 3 2 false false [27] (Cut.vS (Cut.vL (Cut.i 1)) (Cut.i 0) Cut.vE)) :=
  ⟨by kernel_rfl, by kernel_rfl, by kernel_rfl⟩
theorem ZMem.read {base b : Nat} {W : World} {p k : Value} (h : ZMem base W b p k) : ∃ A cp B ck, p = .slice A 1 cp ∧ k = .slice B 2 ck ∧ ZP W A ∧ Ints W W.heap.size B [0, 1] := by
  obtain ⟨φ, h1, h2, h3, h4, h5⟩ := h.mem
  obtain ⟨g1, g2, g3⟩ := zHeap_at
  exact z_read (c1 := 147573952589676412929) h1 h4 h5 g1 g2 g3 (by kernel_rfl) (by kernel_rfl) (by kernel_rfl) (by kernel_rfl) (by kernel_rfl) (by kernel_rfl) (by kernel_rfl) (by kernel_rfl) (by kernel_rfl) (by kernel_rfl)
/-- A block of the abstract heap that is a row, and two of its cells. -/
noncomputable def rowOf (h : AHeap) (b : Nat) : Option (TypeId × T Value) := match h.blocks.get b with
  | some (.cells e _ _ _ _ t) => some (e, t)
  | _ => none
theorem rowOf_some {h : AHeap} {b : Nat} {e : TypeId} {t : T Value} (hr : rowOf h b = some (e, t)) : ∃ n x ro kin, h.blocks.get b = some (.cells e n x ro kin t) := by
  unfold rowOf at hr
  split at hr
  · rename_i e' n x ro kin t' hg
    cases hr
    exact ⟨n, x, ro, kin, hg⟩
  · cases hr
noncomputable def cellOf (h : AHeap) (b i : Nat) : Option Value := match h.blocks.get b with
  | some (.cells _ _ _ _ _ t) => t.get i
  | _ => none
theorem cellOf_at {w0 w : World} {base : Nat} {φ : Phi} {h : AHeap} (H : HR w0 base φ h w) {b c i : Nat} (hb : φ b = some c) {v : Value} (hv : cellOf h b i = some v) : ∃ u, w.cell? ⟨c, i, none⟩ = some u ∧ VR φ v u := by
  unfold cellOf at hv
  split at hv
  · rename_i e n x ro kin t hg
    obtain ⟨_, arr, h1, _, _, h2⟩ := row_at H hb hg
    obtain ⟨_, u, hu, vu⟩ := h2 i v hv
    exact ⟨u, (cell_at h1 i).trans hu, vu⟩
  · cases hv
theorem rz_cells : cellOf rz.zH 262 14 = some (Cut.i 2) ∧ cellOf rz.zH 262 12 = some (Cut.i 0) := ⟨by kernel_rfl, by kernel_rfl⟩
theorem rz_zV : rz.zV = .tuple #[Cut.s 262 0 1 516508834063867445249, Cut.i 0] := rfl
theorem rz_30 : rz.zH.blocks.get 30 = some (Cut.c 28 10 true false [] (T.ofList zList)) := by kernel_rfl
theorem rz_at : rz.zH.blocks.get 25 = some (Cut.c 41 1 false false [] (Cut.vL (Cut.s 23 0 1 147573952589676412929))) ∧ rz.zH.blocks.get 23 = some (Cut.c 40 7 false false [] rb.rb1) ∧ rz.zH.blocks.get 29 = some (Cut.c 3 2 false false [27] (Cut.vS (Cut.vL (Cut.i 1)) (Cut.i 0) Cut.vE)) :=
  ⟨by kernel_rfl, by kernel_rfl, by kernel_rfl⟩
def RunZ (base b : Nat) (W : World) (e : Ending) (W' : World) : Prop :=
  ∃ c cap A cp k', e = .returned (.tuple #[.slice (some ⟨c, 0, none⟩) 1 cap, .int .i64 0]) ∧ W'.cell? ⟨c, 14, none⟩ = some (.int .i64 2) ∧ W'.cell? ⟨c, 12, none⟩ = some (.int .i64 0) ∧
    W'.heap[b]? = some (scrBox zCfg (.slice A 1 cp) k') ∧ ZP W' A ∧ Below base W W'
theorem ZMem.run {base b : Nat} {W : World} {p k : Value} (h : ZMem base W b p k) : Calls Tryz.prog 9 #[scrVal zCfg p k] W (RunZ base b W) := by
  obtain ⟨φ, h1, h2, h3, h4, h5⟩ := h.mem
  refine (rz.run h1 (AsR.one (x := rb.zV) h3)).mono ?_
  rintro e W' ⟨u, φ', rfl, hu, hr, he⟩
  rw [rz_zV] at hu
  cases hu with
  | @tuple _ ys g1 g2 =>
    have hs : ys.size = 2 := g1.symm
    obtain ⟨l⟩ := ys
    match l, hs with
    | [a0, a1], _ =>
      have e1 := vr_eq .int (g2 1 (Cut.i 0) a1 rfl rfl)
      subst e1
      have hsl := g2 0 _ a0 rfl rfl
      cases hsl with
      | @sl _ _ _ _ cap ha _ =>
        cases ha with
        | @mk _ c _ hc =>
          obtain ⟨u1, k1, v1⟩ := cellOf_at hr hc rz_cells.1
          obtain ⟨u2, k2, v2⟩ := cellOf_at hr hc rz_cells.2
          have f1 := vr_eq .int v1
          have f2 := vr_eq .int v2
          subst f1 f2
          obtain ⟨_, arr, d1, _, d2, d3⟩ := row_at hr (he.to 30 b h2) rz_30
          have hsz : arr.size = 10 := d2 rfl
          have key : ∀ i v, zList[i]? = some v → ∃ u, arr[i]? = some u ∧ VR φ' v u := fun i v hv => (d3 i v (by rw [T.get_ofList]; exact hv)).2
          obtain ⟨l⟩ := arr
          match l, hsz with
          | [b0, b1, b2, b3, b4, b5, b6, b7, b8, b9], _ =>
            have y0 : b0 = (Cut.i 16) := by obtain ⟨u, hu, vu⟩ := key 0 (Cut.i 16) rfl; cases hu; exact vr_eq .int vu
            have y1 : b1 = (Cut.ik .u64 1) := by obtain ⟨u, hu, vu⟩ := key 1 (Cut.ik .u64 1) rfl; cases hu; exact vr_eq .int vu
            have y2 : b2 = (Cut.i 1) := by obtain ⟨u, hu, vu⟩ := key 2 (Cut.i 1) rfl; cases hu; exact vr_eq .int vu
            have y3 : b3 = (Cut.i 0) := by obtain ⟨u, hu, vu⟩ := key 3 (Cut.i 0) rfl; cases hu; exact vr_eq .int vu
            have y4 : b4 = (Cut.i 1) := by obtain ⟨u, hu, vu⟩ := key 4 (Cut.i 1) rfl; cases hu; exact vr_eq .int vu
            have y5 : b5 = (Cut.i 1) := by obtain ⟨u, hu, vu⟩ := key 5 (Cut.i 1) rfl; cases hu; exact vr_eq .int vu
            have y6 : b6 = (Cut.i 1) := by obtain ⟨u, hu, vu⟩ := key 6 (Cut.i 1) rfl; cases hu; exact vr_eq .int vu
            have y7 : b7 = (Cut.st [99]) := by obtain ⟨u, hu, vu⟩ := key 7 (Cut.st [99]) rfl; cases hu; exact vr_eq .string vu
            have y8 : VR φ' (Cut.s 25 0 1 36893488147419103233) b8 := by obtain ⟨u, hu, vu⟩ := key 8 _ rfl; cases hu; exact vu
            have y9 : VR φ' (Cut.s 29 0 2 36893488147419103234) b9 := by obtain ⟨u, hu, vu⟩ := key 9 _ rfl; cases hu; exact vu
            subst y0 y1 y2 y3 y4 y5 y6 y7
            obtain ⟨m1, m2, m3⟩ := rz_at
            obtain ⟨A, cp, B, ck, rfl, rfl, hP, _⟩ := z_read (c1 := 147573952589676412929) hr y8 y9 m1 m2 m3 (by kernel_rfl) (by kernel_rfl) (by kernel_rfl) (by kernel_rfl) (by kernel_rfl) (by kernel_rfl) (by kernel_rfl) (by kernel_rfl) (by kernel_rfl) (by kernel_rfl)
            exact ⟨c, cap, A, cp, _, rfl, k1, k2, d1, hP, hr.below⟩
end Go.Proofs.YtbjadgggpkbjmaaGreat
namespace Go.Proofs.YtbjadgggpkbjmaaGreat
open Go.RowKit
open Runes (bs bt)

abbrev encX : ByteArray := ⟨#[0, 16, 0, 0, 0, 1, 0, 0, 1, 1, 1, 0, 0, 0, 0]⟩
abbrev cutX : ByteArray := ⟨#[0, 16, 0, 0, 0, 1, 0, 0, 1, 1, 1, 0, 0, 0]⟩
theorem eq_xy (W : World) (A B A' B' : Option Addr) (a b a' b' : Nat) : Calls Tryz.prog 5 #[scrVal xCfg (.slice A 0 a) (.slice B 0 b), scrVal xCfg (.slice A' 0 a') (.slice B' 0 b')] W (BoolBelow true W) := by
  have h := eqScript_at xS xS A B A' B' a b a' b' W sd_x (ProgsAt.nil_ _ _ _) (Ints.nil_ _ _ _) (ProgsAt.nil_ _ _ _) (Ints.nil_ _ _ _)
  rw [same_yes] at h
  exact h
theorem chk_xx (W : World) : Calls Tryz.prog 6 #[scrVal xCfg (.slice none 0 0) (.slice none 0 0)] W (CheckRes 0 W) := by
  have h := scriptCheck xS none none 0 0 W sz_x (ProgsAt.nil_ _ _ _) (Ints.nil_ _ _ _)
  rw [chk_x] at h
  exact h
theorem enc_xx (W : World) : Calls Tryz.prog 7 #[scrVal xCfg (.slice none 0 0) (.slice none 0 0)] W (fun e W' => e = .returned (.tuple #[.string encX, .int .i64 0]) ∧ Below W.heap.size W W') := by
  have h := scriptEncode xS none none 0 0 W sz_x (ProgsAt.nil_ _ _ _) (Ints.nil_ _ _ _) ty_x
  unfold EncResV at h
  rw [chk_x, if_pos rfl, enc_x] at h
  exact h
theorem dec_xx (W : World) : Calls Tryz.prog 8 #[.string encX] W (fun e W' => ∃ A a B b, e = .returned (.tuple #[scrVal xCfg (.slice A 0 a) (.slice B 0 b), .int .i64 0]) ∧ Below W.heap.size W W') := by
  have h := scriptDecode (encScr xS) W (encScr_BL xS) (by rw [encScr_len]; decide)
  rw [enc_x] at h
  refine h.mono ?_
  rintro e W' ⟨hb, h⟩
  rcases h with ⟨s, v, o1, o2, o3, rfl, hv⟩ | ⟨hx, _⟩
  · have hs : s = xS := by
      have h1 := dScr_enc s [] o1 o2
      have h2 := dScr_enc xS [] ok_x ty_x
      have h3 := h1.symm.trans ((congrArg (fun l => dScr (l ++ [])) o3).trans h2)
      exact congrArg Prod.fst (Option.some.inj h3)
    subst hs
    obtain ⟨A, a, B, b, rfl, _, _⟩ := hv
    exact ⟨A, a, B, b, rfl, hb⟩
  · exact absurd ⟨xS, ok_x, ty_x, rfl⟩ hx
theorem dec_bad (l : List Int) (W : World) (hl : BL l) (hs : l.length ≤ 14) : Calls Tryz.prog 8 #[.string (bs l)] W (fun e W' => e = .returned (.tuple #[scrVal cfg0 (.slice none 0 0) (.slice none 0 0), .int .i64 4]) ∧ Below W.heap.size W W') := by
  refine (scriptDecode l W hl (by omega)).mono ?_
  rintro e W' ⟨hb, h⟩
  rcases h with ⟨s, v, o1, o2, o3, rfl, hv⟩ | ⟨hx, rfl⟩
  · exfalso
    have := encScr_len s
    rw [o3] at this
    omega
  · refine ⟨?_, hb⟩
    unfold decErr
    rw [if_neg (by omega)]
theorem dec_cutX (W : World) : Calls Tryz.prog 8 #[.string cutX] W (fun e W' => e = .returned (.tuple #[scrVal cfg0 (.slice none 0 0) (.slice none 0 0), .int .i64 4]) ∧ Below W.heap.size W W') := by
  have h := dec_bad [0, 16, 0, 0, 0, 1, 0, 0, 1, 1, 1, 0, 0, 0] W (by intro x hx; simp at hx; omega) (by decide)
  rw [show bs [0, 16, 0, 0, 0, 1, 0, 0, 1, 1, 1, 0, 0, 0] = cutX by decide] at h
  exact h
theorem dec_none (W : World) : Calls Tryz.prog 8 #[.string ⟨#[]⟩] W (fun e W' => e = .returned (.tuple #[scrVal cfg0 (.slice none 0 0) (.slice none 0 0), .int .i64 4]) ∧ Below W.heap.size W W') := by
  have h := dec_bad [] W (by intro x hx; cases hx) (by decide)
  rw [show bs [] = ⟨#[]⟩ by decide] at h
  exact h
theorem eq_zz (W : World) (A B A' B' : Option Addr) (a b a' b' : Nat) (h1 : ProgsAt W W.heap.size A [[zOp]]) (h2 : Ints W W.heap.size B [0, 1]) (h3 : ProgsAt W W.heap.size A' [[zOp]]) (h4 : Ints W W.heap.size B' [0, 1]) :
    Calls Tryz.prog 5 #[scrVal zCfg (.slice A 1 a) (.slice B 2 b), scrVal zCfg (.slice A' 1 a') (.slice B' 2 b')] W (BoolBelow true W) := by
  have h := eqScript_at (zS [0, 1]) (zS [0, 1]) A B A' B' a b a' b' W (sd_z _ (by decide)) h1 h2 h3 h4
  rw [same_yes] at h
  exact h
theorem chk_zz (W : World) (A B : Option Addr) (a b n : Nat) (ks : List Int) (r : Int) (hn : n = ks.length) (hs : n ≤ 70000) (h1 : ProgsAt W W.heap.size A [[zOp]]) (h2 : Ints W W.heap.size B ks) (hr : chkScr (zS ks) = r) :
    Calls Tryz.prog 6 #[scrVal zCfg (.slice A 1 a) (.slice B n b)] W (CheckRes r W) := by
  subst hn
  have h := scriptCheck (zS ks) A B a b W (sz_z ks (by omega)) h1 h2
  rw [hr] at h
  exact h
end Go.Proofs.YtbjadgggpkbjmaaGreat
