/- Walk: delta.Text. -/
import Derived.Test.YtcbhfhmpajamoaaDoorQ3
import Derived.Test.YtcbhfhmpajamoaaDoorQ1
namespace Go.Proofs.YtcbhfhmpajamoaaDoor
open Go.RowKit

def pieceL (p : PieceV) : List Int := if p.kind = 2 then quoteL p.text else if p.kind = 3 then 45 :: decL p.n.toNat else 61 :: decL p.n.toNat
def deltaL (ps : List PieceV) : List Int := joinL (ps.map pieceL)
def DeltaRes (ps : List PieceV) (w : World) (e : Ending) (w' : World) : Prop :=
  (if chkD ps 0 0 = 0 then e = .returned (.tuple #[.string (bs (deltaL ps)), .int .i64 0]) else e = .returned (.tuple #[.string ⟨#[]⟩, .int .i64 (chkD ps 0 0)])) ∧ Below w.heap.size w w'
theorem chk_all : ∀ (ps : List PieceV) (i o : Int), 0 ≤ i → 0 ≤ o → chkD ps i o = 0 → ∀ p ∈ ps, okP p ∧ p.n ≤ 1048576
  | [], _, _, _, _, _ => fun p hp => by cases hp
  | q :: r, i, o, hi, ho, h => by
    by_cases hok : okP q
    · by_cases h1 : 1048576 - i < inP q ∨ 1048576 - o < outP q
      · rw [chk_long hok h1] at h; cases h
      · rw [chk_go hok (by omega) (by omega)] at h
        have hp := in_pos hok
        have ih := chk_all r _ _ (by omega) (by omega) h
        intro p hm
        rcases List.mem_cons.1 hm with rfl | hm
        · refine ⟨hok, ?_⟩
          rcases hok with ⟨h2, h3, h4⟩ | ⟨h2 | h2, h3, h4⟩
          · omega
          · have : inP p = p.n := by unfold inP; rw [if_neg (by omega)]
            omega
          · have : inP p = p.n := by unfold inP; rw [if_neg (by omega)]
            omega
        · exact ih p hm
    · rw [chk_no hok] at h; cases h
theorem join_take {α : Type} (d : α) (f : α → List Int) (xs : List α) (k : Nat) (hk : k < xs.length) :
    joinL ((xs.take (k + 1)).map f) = (if k = 0 then [] else joinL ((xs.take k).map f) ++ [32]) ++ f (xs.getD k d) := by
  rw [take_snoc (getD_at d xs k hk), List.map_append, List.map_singleton]
  by_cases h0 : k = 0
  · subst h0; simp [joinL]
  · rw [if_neg h0, joinL_snoc _ _ (by intro hh; have := congrArg List.length hh; rw [List.length_map, List.length_take, List.length_nil] at this; omega)]
    simp
theorem strCells_ints (s : ByteArray) : Lib.strCells s = (ints s).map (Value.int .u8) := by
  unfold Lib.strCells ints
  rw [List.map_map]; rfl
theorem byteCells_by8 {l : List Int} (h : BL l) : Lib.byteCells (by8 l) = l.map (Value.int .u8) := by
  unfold Lib.byteCells by8
  rw [List.map_map]
  refine List.map_congr_left fun x hx => ?_
  have := h x hx
  show Value.int .u8 (((UInt8.ofNat x.toNat).toNat : Nat) : Int) = Value.int .u8 x
  rw [UInt8.toNat_ofNat']
  congr 1
  omega
theorem builder_below {T e : TypeId} {B b : Nat} {l : List Value} {w w' : World} (h : Lib.IsBuilderF T e B b l w) (hb : Below w.heap.size w w') : Lib.IsBuilderF T e B b l w' := by
  have hg : w.grownBy w' none := ⟨hb.os, hb.tape, hb.output, hb.size, fun q hq _ => hb.block q hq⟩
  have key : ∀ p, Lib.BuilderAtF T e B b p l w → Lib.BuilderAtF T e B b p l w' := fun p h => by
    have hlt := h.lt
    obtain ⟨hB, v, hbk, hown, hne⟩ := h
    exact ⟨hB, v, (hb.block b hlt).trans hbk, hown.kept hg (by cases hv : v.ownBlock <;> simp), hne⟩
  exact h.elim (fun x => .inl (key _ x)) (fun x => .inr (key _ x))
theorem builder_lt {T e : TypeId} {B b : Nat} {l : List Value} {w : World} (h : Lib.IsBuilderF T e B b l w) : b < w.heap.size := h.elim (fun x => x.lt) (fun x => x.lt)
/-- The world in delta.Text: the builder, the piece's box. -/
structure DtSt (w W : World) (bb xb : Nat) (p : PieceV) (l : List Int) : Prop where
  bld : Lib.IsBuilderF 79 5 w.heap.size bb (l.map (Value.int .u8)) W
  box : W.heap[xb]? = some (pieceBox p)
  bel : Below w.heap.size w W
  ne : xb ≠ bb
theorem DtSt.below {w W W' : World} {bb xb : Nat} {p : PieceV} {l : List Int} (h : DtSt w W bb xb p l) (hb : Below W.heap.size W W') : DtSt w W' bb xb p l :=
  ⟨builder_below h.bld hb, (hb.block xb (heap_lt h.box)).trans h.box, below_then h.bel h.bel.size hb, h.ne⟩
theorem DtSt.writeB {w W : World} {bb xb : Nat} {p : PieceV} {l : List Int} (h : DtSt w W bb xb p l) (c : Int) (hl : l.length ≤ 1000000) :
    Calls Tryd.prog 34 #[.pointer (some ⟨bb, 0, none⟩), .int .u8 c] W (fun e w' => e = .returned .nilIface ∧ DtSt w w' bb xb p (l ++ [c])) := by
  refine (Tryd.Builder_WriteByte_k w.heap.size bb _ c W h.bld (by rw [List.length_map]; omega) h.bel.size).mono ?_
  rintro e w' ⟨rfl, h1, h2, h3⟩
  refine ⟨rfl, .inr (by rw [List.map_append]; exact h1), h3 xb _ h.box (fun hh => h.ne (Option.some.inj hh)) (fun c fz hh => by cases hh), h.bel.trans h2, h.ne⟩
theorem DtSt.writeS {w W : World} {bb xb : Nat} {p : PieceV} {l : List Int} (h : DtSt w W bb xb p l) (s : ByteArray) (hl : l.length ≤ 1000000) (hs : s.size ≤ 1000000) :
    Calls Tryd.prog 31 #[.pointer (some ⟨bb, 0, none⟩), .string s] W (fun e w' => e = .returned (.tuple #[.int .i64 s.size, .nilIface]) ∧ DtSt w w' bb xb p (l ++ ints s)) := by
  refine (Tryd.Builder_WriteString_k w.heap.size bb _ s W h.bld (by rw [List.length_map]; omega) h.bel.size).mono ?_
  rintro e w' ⟨rfl, h1, h2, h3⟩
  refine ⟨rfl, .inr (by rw [List.map_append, ← strCells_ints]; exact h1), h3 xb _ h.box (fun hh => h.ne (Option.some.inj hh)) (fun c fz hh => by cases hh), h.bel.trans h2, h.ne⟩
theorem DtSt.cells {w W : World} {bb xb : Nat} {x0 x1 : Int} {x2 : ByteArray} {l : List Int} (h : DtSt w W bb xb ⟨x0, x1, x2⟩ l) :
    W.cell? ⟨xb, 0, none⟩ = some (.int .u8 x0) ∧ W.cell? ⟨xb, 1, none⟩ = some (.int .i64 x1) ∧ W.cell? ⟨xb, 2, none⟩ = some (.string x2) := by
  refine ⟨?_, ?_, ?_⟩ <;> (rw [cell_of_row _ _ _ _ _ _ h.box]; rfl)
theorem ints_cons (c : Int) (hc : 0 ≤ c ∧ c < 256) (n : Nat) : ints ((bs [c]) ++ bs (decL n)) = c :: decL n := by
  rw [bs_app]
  exact ints_bs (fun x hx => by rcases List.mem_cons.1 hx with rfl | hx; exact hc; exact decL_BL n x hx)
theorem dec_le (x : Int) (h0 : 0 ≤ x) (h1 : x ≤ 9999999999) : (decL x.toNat).length ≤ 10 := by
  have := numL_le x h1
  unfold numL at this
  rw [if_neg (by omega)] at this
  exact this
theorem pieceL_le {p : PieceV} (h0 : okP p) (h1 : p.n ≤ 1048576) (h2 : p.text.size ≤ 1000) : (pieceL p).length ≤ 2001 := by
  have hd : 0 ≤ p.n → (decL p.n.toNat).length ≤ 10 := fun h => dec_le p.n h (by omega)
  unfold pieceL
  rcases h0 with ⟨a, b, c⟩ | ⟨a | a, b, c⟩
  · rw [if_pos a, quoteL_len]; omega
  · rw [if_neg (by omega), if_neg (by omega), List.length_cons]; have := hd (by omega); omega
  · rw [if_neg (by omega), if_pos a, List.length_cons]; have := hd (by omega); omega
theorem pieceL_BL (p : PieceV) : BL (pieceL p) := by
  have hd : ∀ c : Int, 0 ≤ c ∧ c < 256 → BL (c :: decL p.n.toNat) := fun c hc x hx => by rcases List.mem_cons.1 hx with rfl | hx; exact hc; exact decL_BL _ x hx
  unfold pieceL
  split
  · exact quoteL_BL _
  · split <;> exact hd _ (by decide)
theorem joinL_BL : ∀ (ls : List (List Int)), (∀ l ∈ ls, BL l) → BL (joinL ls)
  | [], _ => fun x hx => by cases hx
  | [l], h => h l (by simp)
  | a :: b :: r, h => fun x hx => by
    have ih := joinL_BL (b :: r) (fun l hl => h l (List.mem_cons_of_mem _ hl))
    have : joinL (a :: b :: r) = a ++ 32 :: joinL (b :: r) := rfl
    rw [this] at hx
    rcases List.mem_append.1 hx with hx | hx
    · exact h a (by simp) x hx
    · rcases List.mem_cons.1 hx with rfl | hx
      · decide
      · exact ih x hx
set_option maxHeartbeats 0 in
set_option maxRecDepth 100000 in
theorem deltaText (A : Option Addr) (c : Nat) (ps : List PieceV) (w : World) (hT : Tab w) (hP : PiecesAt w w.heap.size A ps) (hl : ps.length ≤ 20) (ht : ∀ p ∈ ps, p.text.size ≤ 1000) :
    Calls Tryd.prog 20 #[.slice A ps.length c] w (DeltaRes ps w) := by
  have HC := Lib.hid (checkP A c ps w hP (by omega))
  by_cases h0 : chkD ps 0 0 = 0
  case neg =>
    have HR : Hid (∀ e w', (e = .returned (.tuple #[.string ⟨#[]⟩, .int .i64 (chkD ps 0 0)]) ∧ Below w.heap.size w w') → DeltaRes ps w e w') := fun e w' h => ⟨by rw [if_neg h0]; exact h.1, h.2⟩
    generalize chkD ps 0 0 = R at *
    generalize ps.length = n at *
    have hne : (R != 0) = true := by simpa using h0
    clear hP ht hT
    go_enter Tryd.func20, Tryd.ntmps20
    go_wp2_with fail
    refine HC.out.mono ?_
    rintro e w1 ⟨rfl, hb⟩
    have HB := Lib.hid hb
    clear hb
    go_wp2_with fail
    go_ret2
    exact HR.out _ _ ⟨rfl, HB.out⟩
  case pos =>
    have HR : Hid (∀ e w', (e = .returned (.tuple #[.string (bs (deltaL ps)), .int .i64 0]) ∧ Below w.heap.size w w') → DeltaRes ps w e w') := fun e w' h => ⟨by rw [if_pos h0]; exact h.1, h.2⟩
    have HALL := Lib.hid (chk_all ps 0 0 (by omega) (by omega) h0)
    have HTX := Lib.hid ht
    have HT := Lib.hid hT
    have HJT := Lib.hid (join_take noPiece pieceL ps)
    have HJL : Hid (∀ k, (joinL ((ps.take k).map pieceL)).length ≤ 60000) := fun k => by
      have := joinL_le ((ps.take k).map pieceL) 2001 (fun l hl' => by
        obtain ⟨p, hp, rfl⟩ := List.mem_map.1 hl'
        have hm := List.mem_of_mem_take hp
        exact pieceL_le ((chk_all ps 0 0 (by omega) (by omega) h0 p hm).1) ((chk_all ps 0 0 (by omega) (by omega) h0 p hm).2) (ht p hm))
      rw [List.length_map, List.length_take] at this
      have h2 : min k ps.length * (2001 + 1) ≤ 20 * 2002 := Nat.mul_le_mul (by omega) (by omega)
      omega
    have HDL : Hid (deltaL ps = joinL ((ps.take ps.length).map pieceL)) := by show _ = _; rw [List.take_length]; rfl
    have HDB : Hid (BL (deltaL ps)) := joinL_BL _ (fun l hl' => by obtain ⟨p, _, rfl⟩ := List.mem_map.1 hl'; exact pieceL_BL p)
    have HP := Lib.hid hP
    rw [h0] at HC
    clear hP ht hT h0
    generalize deltaL ps = DL at *
    generalize hn : ps.length = n at *
    have HN := Lib.hid hn
    clear hn
    have h00 : ((0 : Int) != 0) = false := by decide
    go_enter Tryd.func20, Tryd.ntmps20
    go_wp2_with fail
    refine HC.out.mono ?_
    rintro e w1 ⟨rfl, hb⟩
    have HB1 : Hid (Below w.heap.size w (w1.alloc (.cells #[.pointer none, .slice none 0 0] 79))) := hb.alloc hb.size _
    have HBD : Hid (Lib.IsBuilderF 79 5 w.heap.size w1.heap.size [] (w1.alloc (.cells #[.pointer none, .slice none 0 0] 79))) :=
      .inl ⟨hb.size, .slice none 0 0, heap_alloc_new _ _, World.ownsRowF_nil _ _ _ _, by simp [Value.ownBlock]⟩
    clear hb HC
    go_upto_region 5 with fail
    generalize w1.alloc (.cells #[.pointer none, .slice none 0 0] 79) = W at *
    generalize w1.heap.size = bb at *
    go_wp2_with fail
    go_loopw [16] (fun i wr => ∃ k : Nat, k ≤ n ∧ i = .int .i64 k ∧ Hid (Lib.IsBuilderF 79 5 w.heap.size bb ((joinL ((ps.take k).map pieceL)).map (Value.int .u8)) wr) ∧ Hid (Below w.heap.size w wr)) (fun i _ => n - (intOf i).toNat)
    case atStart => exact ⟨0, Nat.zero_le _, rfl, by show Lib.IsBuilderF _ _ _ _ _ _; simpa [joinL] using HBD.out, HB1.out⟩
    case round =>
      obtain ⟨k, hk, rfl, HBK, HW⟩ := hrel
      clear HBD HB1
      by_cases hlt : k < n
      · have hki : (k : Int) < (n : Int) := by omega
        have hkl : k < ps.length := by rw [HN.out]; exact hlt
        obtain ⟨b, off, rfl, hb, hc⟩ := HP.out (by omega)
        have hpc := (hc k hkl).keep (HW.out.block b hb)
        have hmem := getD_mem noPiece ps k hkl
        have htx := HTX.out _ hmem
        have hall := HALL.out _ hmem
        have HJK := Lib.hid (HJT.out k (by first | exact hlt | exact hkl))
        have hjk := HJL.out k
        clear hc hkl hmem
        generalize ps.getD k noPiece = p at *
        have HDT : Hid (DtSt w (wr.alloc (pieceBox p)) bb wr.heap.size p (joinL ((ps.take k).map pieceL))) :=
          ⟨builder_below HBK.out (below_box wr _), heap_alloc_new _ _, HW.out.alloc HW.out.size _, fun hh => by have := builder_lt HBK.out; omega⟩
        generalize hJ : joinL ((ps.take k).map pieceL) = J at *
        have hJ0 : k = 0 → J = [] := fun h => by rw [← hJ, h]; rfl
        clear hJ
        obtain ⟨m0, m1, m2⟩ := hpc
        obtain ⟨hok, hn1⟩ := hall
        have HPL : Hid (pieceL p = if p.kind = 2 then quoteL p.text else if p.kind = 3 then 45 :: decL p.n.toNat else 61 :: decL p.n.toNat) := rfl
        generalize pieceL p = PL at *
        obtain ⟨x0, x1, x2⟩ := p
        dsimp only at m0 m1 m2 hn1 htx
        by_cases hk0 : k = 0
        · rw [if_pos hk0, List.nil_append] at HJK
          have hkn : ¬ (0 : Int) < (k : Int) := by omega
          have HJP : Hid (joinL ((ps.take (k + 1)).map pieceL) = J ++ PL) := by show _ = _; rw [HJK.out, hJ0 hk0]; rfl
          have hjj : J.length ≤ 70000 := by omega
          have HD1 := HDT
          clear HJK HBK HW HDT hk0 hJ0
          go_upto_region 10 with fail
          generalize hW1 : wr.alloc (pieceBox ⟨x0, x1, x2⟩) = W1 at *
          clear hW1
          generalize wr.heap.size = xb at *
          obtain ⟨n0, n1, n2⟩ := HD1.out.cells
          rcases hok with ⟨h1, h2, h3⟩ | ⟨h1 | h1, h2, h3⟩
          · dsimp only at h1 h2 h3
            subst h1
            have HPL2 : Hid (PL = 43 :: hexL (ints x2)) := HPL.out
            clear HPL hn1 h2 h3
            go_wp2_with fail
            refine (HD1.out.writeB 43 (by omega)).mono ?_
            rintro e W2 ⟨rfl, hdt⟩
            have HD2 := Lib.hid hdt
            obtain ⟨n0, n1, n2⟩ := HD2.out.cells
            clear hdt HD1
            go_wp2_with fail
            clear n0 n1 n2
            go_loopw [37] (fun i W3 => ∃ j : Nat, j ≤ x2.size ∧ i = .int .i64 j ∧ Hid (DtSt w W3 bb xb ⟨2, x1, x2⟩ (J ++ 43 :: hexL ((ints x2).take j)))) (fun i _ => x2.size - (intOf i).toNat)
            case atStart => exact ⟨0, Nat.zero_le _, rfl, HD2.out⟩
            case round =>
              obtain ⟨j, hj, rfl, HD⟩ := hrel
              clear HD2
              have hlen : (J ++ 43 :: hexL ((ints x2).take j)).length ≤ 80000 := by
                rw [List.length_append, List.length_cons, hexL_len, List.length_take, ints_len]; omega
              obtain ⟨n0, n1, n2⟩ := HD.out.cells
              by_cases hjl : j < x2.size
              · have hji : (j : Int) < (x2.size : Int) := by omega
                have hb := UInt8.toNat_lt (x2[j]'hjl)
                have HTK := Lib.hid (take_snoc (ints_at x2 j hjl))
                have e1 : ((((x2[j]'hjl).toNat : Nat) : Int) / 16).toNat = (x2[j]'hjl).toNat / 16 := by omega
                have e2 : (0 : Int) ≤ (((x2[j]'hjl).toNat : Nat) : Int) / 16 := by omega
                have e3 : (((x2[j]'hjl).toNat : Nat) : Int) / 16 < 16 := by omega
                have hv := hexv
                have e4 : bits BinOp.and IntKind.u8 (((x2[j]'hjl).toNat : Nat) : Int) 15 = (((x2[j]'hjl).toNat : Nat) : Int) % 16 := u8_and15 _ (by omega) (by omega)
                have e5 : ((((x2[j]'hjl).toNat : Nat) : Int) % 16).toNat = (x2[j]'hjl).toNat % 16 := by omega
                have e6 : (0 : Int) ≤ (((x2[j]'hjl).toNat : Nat) : Int) % 16 := by omega
                have e7 : (((x2[j]'hjl).toNat : Nat) : Int) % 16 < 16 := by omega
                have HX : Hid (J ++ 43 :: hexL ((ints x2).take (j + 1)) = (J ++ 43 :: hexL ((ints x2).take j) ++ [hxd ((x2[j]'hjl).toNat / 16)]) ++ [hxd ((x2[j]'hjl).toNat % 16)]) := by
                  show _ = _
                  rw [HTK.out, hexL_snoc]
                  simp
                have HWR := Lib.hid (HD.out.writeB (hxd ((x2[j]'hjl).toNat / 16)) (by omega))
                go_wp2_with fail
                refine HWR.out.mono ?_
                rintro e W4 ⟨rfl, hdt⟩
                have HWR2 := Lib.hid (hdt.writeB (hxd ((x2[j]'hjl).toNat % 16)) (by rw [List.length_append, List.length_singleton]; omega))
                obtain ⟨n0, n1, n2⟩ := hdt.cells
                clear hdt HD HWR
                go_wp2_with fail
                refine HWR2.out.mono ?_
                rintro e W5 ⟨rfl, hdt⟩
                rw [← HX.out] at hdt
                have HD5 := Lib.hid hdt
                clear hdt HWR2
                go_wp2_with fail
                go_roundw
                case rel => exact ⟨j + 1, by omega, by go_num, HD5.out⟩
                case measure => simp [intOf]; omega
              · obtain rfl : j = x2.size := by omega
                have HF : Hid (DtSt w wr bb xb ⟨2, x1, x2⟩ (joinL ((ps.take (k + 1)).map pieceL))) := by
                  show DtSt _ _ _ _ _ _
                  have := HD.out
                  rw [List.take_of_length_le (by rw [ints_len]; omega)] at this
                  rw [HJP.out, HPL2.out]; exact this
                clear HD
                go_wp2_with fail
                go_roundw
                case rel => exact ⟨k + 1, by omega, by go_num, HF.out.bld, HF.out.bel⟩
                case measure => simp [intOf]; omega
          · dsimp only at h1 h2 h3
            subst h1
            have HPL2 : Hid (PL = 61 :: decL x1.toNat) := HPL.out
            have HIT := Lib.hid (itoaFn x1.toNat (by omega) W1 (HT.out.below HD1.out.bel))
            rw [Int.toNat_of_nonneg (by omega)] at HIT
            unfold StrRes at HIT
            have hdz : (bs (decL x1.toNat)).size ≤ 10 := by rw [bs_size]; exact dec_le x1 (by omega) (by omega)
            clear HPL h3
            go_wp2_with fail
            refine HIT.out.mono ?_
            rintro e W2 ⟨rfl, hb2⟩
            have HD2 := Lib.hid (HD1.out.below hb2)
            have HWS := Lib.hid (HD2.out.writeS ((⟨#[61]⟩ : ByteArray) ++ bs (decL x1.toNat)) (by omega) (by rw [ByteArray.size_append, show (⟨#[61]⟩ : ByteArray).size = 1 from rfl]; omega))
            rw [show (⟨#[61]⟩ : ByteArray) = bs [61] from rfl, ints_cons 61 (by decide), ← HPL2.out, ← HJP.out] at HWS
            clear hb2 HIT HD1
            go_wp2_with fail
            refine HWS.out.mono ?_
            rintro e W3 ⟨rfl, hdt⟩
            have HF := Lib.hid hdt
            clear hdt HWS HD2
            go_wp2_with fail
            go_roundw
            case rel => exact ⟨k + 1, by omega, by go_num, HF.out.bld, HF.out.bel⟩
            case measure => simp [intOf]; omega
          · dsimp only at h1 h2 h3
            subst h1
            have HPL2 : Hid (PL = 45 :: decL x1.toNat) := HPL.out
            have HIT := Lib.hid (itoaFn x1.toNat (by omega) W1 (HT.out.below HD1.out.bel))
            rw [Int.toNat_of_nonneg (by omega)] at HIT
            unfold StrRes at HIT
            have hdz : (bs (decL x1.toNat)).size ≤ 10 := by rw [bs_size]; exact dec_le x1 (by omega) (by omega)
            clear HPL h3
            go_wp2_with fail
            refine HIT.out.mono ?_
            rintro e W2 ⟨rfl, hb2⟩
            have HD2 := Lib.hid (HD1.out.below hb2)
            have HWS := Lib.hid (HD2.out.writeS ((⟨#[45]⟩ : ByteArray) ++ bs (decL x1.toNat)) (by omega) (by rw [ByteArray.size_append, show (⟨#[45]⟩ : ByteArray).size = 1 from rfl]; omega))
            rw [show (⟨#[45]⟩ : ByteArray) = bs [45] from rfl, ints_cons 45 (by decide), ← HPL2.out, ← HJP.out] at HWS
            clear hb2 HIT HD1
            go_wp2_with fail
            refine HWS.out.mono ?_
            rintro e W3 ⟨rfl, hdt⟩
            have HF := Lib.hid hdt
            clear hdt HWS HD2
            go_wp2_with fail
            go_roundw
            case rel => exact ⟨k + 1, by omega, by go_num, HF.out.bld, HF.out.bel⟩
            case measure => simp [intOf]; omega
        · rw [if_neg hk0] at HJK
          have hkn : (0 : Int) < (k : Int) := by omega
          go_wp2_with fail
          refine (HDT.out.writeB 32 (by omega)).mono ?_
          rintro e W1 ⟨rfl, hdt⟩
          have HD1 := Lib.hid hdt
          have HJP : Hid (joinL ((ps.take (k + 1)).map pieceL) = (J ++ [32]) ++ PL) := HJK.out
          have hjj : (J ++ [32]).length ≤ 70000 := by rw [List.length_append, List.length_singleton]; omega
          generalize J ++ [32] = J at *
          clear HJK HBK HW HDT hdt m0 m1 m2
          go_upto_region 10 with fail
          generalize wr.heap.size = xb at *
          obtain ⟨n0, n1, n2⟩ := HD1.out.cells
          rcases hok with ⟨h1, h2, h3⟩ | ⟨h1 | h1, h2, h3⟩
          · dsimp only at h1 h2 h3
            subst h1
            have HPL2 : Hid (PL = 43 :: hexL (ints x2)) := HPL.out
            clear HPL hn1 h2 h3
            go_wp2_with fail
            refine (HD1.out.writeB 43 (by omega)).mono ?_
            rintro e W2 ⟨rfl, hdt⟩
            have HD2 := Lib.hid hdt
            obtain ⟨n0, n1, n2⟩ := HD2.out.cells
            clear hdt HD1
            go_wp2_with fail
            clear n0 n1 n2
            go_loopw [37] (fun i W3 => ∃ j : Nat, j ≤ x2.size ∧ i = .int .i64 j ∧ Hid (DtSt w W3 bb xb ⟨2, x1, x2⟩ (J ++ 43 :: hexL ((ints x2).take j)))) (fun i _ => x2.size - (intOf i).toNat)
            case atStart => exact ⟨0, Nat.zero_le _, rfl, HD2.out⟩
            case round =>
              obtain ⟨j, hj, rfl, HD⟩ := hrel
              clear HD2
              have hlen : (J ++ 43 :: hexL ((ints x2).take j)).length ≤ 80000 := by
                rw [List.length_append, List.length_cons, hexL_len, List.length_take, ints_len]; omega
              obtain ⟨n0, n1, n2⟩ := HD.out.cells
              by_cases hjl : j < x2.size
              · have hji : (j : Int) < (x2.size : Int) := by omega
                have hb := UInt8.toNat_lt (x2[j]'hjl)
                have HTK := Lib.hid (take_snoc (ints_at x2 j hjl))
                have e1 : ((((x2[j]'hjl).toNat : Nat) : Int) / 16).toNat = (x2[j]'hjl).toNat / 16 := by omega
                have e2 : (0 : Int) ≤ (((x2[j]'hjl).toNat : Nat) : Int) / 16 := by omega
                have e3 : (((x2[j]'hjl).toNat : Nat) : Int) / 16 < 16 := by omega
                have hv := hexv
                have e4 : bits BinOp.and IntKind.u8 (((x2[j]'hjl).toNat : Nat) : Int) 15 = (((x2[j]'hjl).toNat : Nat) : Int) % 16 := u8_and15 _ (by omega) (by omega)
                have e5 : ((((x2[j]'hjl).toNat : Nat) : Int) % 16).toNat = (x2[j]'hjl).toNat % 16 := by omega
                have e6 : (0 : Int) ≤ (((x2[j]'hjl).toNat : Nat) : Int) % 16 := by omega
                have e7 : (((x2[j]'hjl).toNat : Nat) : Int) % 16 < 16 := by omega
                have HX : Hid (J ++ 43 :: hexL ((ints x2).take (j + 1)) = (J ++ 43 :: hexL ((ints x2).take j) ++ [hxd ((x2[j]'hjl).toNat / 16)]) ++ [hxd ((x2[j]'hjl).toNat % 16)]) := by
                  show _ = _
                  rw [HTK.out, hexL_snoc]
                  simp
                have HWR := Lib.hid (HD.out.writeB (hxd ((x2[j]'hjl).toNat / 16)) (by omega))
                go_wp2_with fail
                refine HWR.out.mono ?_
                rintro e W4 ⟨rfl, hdt⟩
                have HWR2 := Lib.hid (hdt.writeB (hxd ((x2[j]'hjl).toNat % 16)) (by rw [List.length_append, List.length_singleton]; omega))
                obtain ⟨n0, n1, n2⟩ := hdt.cells
                clear hdt HD HWR
                go_wp2_with fail
                refine HWR2.out.mono ?_
                rintro e W5 ⟨rfl, hdt⟩
                rw [← HX.out] at hdt
                have HD5 := Lib.hid hdt
                clear hdt HWR2
                go_wp2_with fail
                go_roundw
                case rel => exact ⟨j + 1, by omega, by go_num, HD5.out⟩
                case measure => simp [intOf]; omega
              · obtain rfl : j = x2.size := by omega
                have HF : Hid (DtSt w wr bb xb ⟨2, x1, x2⟩ (joinL ((ps.take (k + 1)).map pieceL))) := by
                  show DtSt _ _ _ _ _ _
                  have := HD.out
                  rw [List.take_of_length_le (by rw [ints_len]; omega)] at this
                  rw [HJP.out, HPL2.out]; exact this
                clear HD
                go_wp2_with fail
                go_roundw
                case rel => exact ⟨k + 1, by omega, by go_num, HF.out.bld, HF.out.bel⟩
                case measure => simp [intOf]; omega
          · dsimp only at h1 h2 h3
            subst h1
            have HPL2 : Hid (PL = 61 :: decL x1.toNat) := HPL.out
            have HIT := Lib.hid (itoaFn x1.toNat (by omega) W1 (HT.out.below HD1.out.bel))
            rw [Int.toNat_of_nonneg (by omega)] at HIT
            unfold StrRes at HIT
            have hdz : (bs (decL x1.toNat)).size ≤ 10 := by rw [bs_size]; exact dec_le x1 (by omega) (by omega)
            clear HPL h3
            go_wp2_with fail
            refine HIT.out.mono ?_
            rintro e W2 ⟨rfl, hb2⟩
            have HD2 := Lib.hid (HD1.out.below hb2)
            have HWS := Lib.hid (HD2.out.writeS ((⟨#[61]⟩ : ByteArray) ++ bs (decL x1.toNat)) (by omega) (by rw [ByteArray.size_append, show (⟨#[61]⟩ : ByteArray).size = 1 from rfl]; omega))
            rw [show (⟨#[61]⟩ : ByteArray) = bs [61] from rfl, ints_cons 61 (by decide), ← HPL2.out, ← HJP.out] at HWS
            clear hb2 HIT HD1
            go_wp2_with fail
            refine HWS.out.mono ?_
            rintro e W3 ⟨rfl, hdt⟩
            have HF := Lib.hid hdt
            clear hdt HWS HD2
            go_wp2_with fail
            go_roundw
            case rel => exact ⟨k + 1, by omega, by go_num, HF.out.bld, HF.out.bel⟩
            case measure => simp [intOf]; omega
          · dsimp only at h1 h2 h3
            subst h1
            have HPL2 : Hid (PL = 45 :: decL x1.toNat) := HPL.out
            have HIT := Lib.hid (itoaFn x1.toNat (by omega) W1 (HT.out.below HD1.out.bel))
            rw [Int.toNat_of_nonneg (by omega)] at HIT
            unfold StrRes at HIT
            have hdz : (bs (decL x1.toNat)).size ≤ 10 := by rw [bs_size]; exact dec_le x1 (by omega) (by omega)
            clear HPL h3
            go_wp2_with fail
            refine HIT.out.mono ?_
            rintro e W2 ⟨rfl, hb2⟩
            have HD2 := Lib.hid (HD1.out.below hb2)
            have HWS := Lib.hid (HD2.out.writeS ((⟨#[45]⟩ : ByteArray) ++ bs (decL x1.toNat)) (by omega) (by rw [ByteArray.size_append, show (⟨#[45]⟩ : ByteArray).size = 1 from rfl]; omega))
            rw [show (⟨#[45]⟩ : ByteArray) = bs [45] from rfl, ints_cons 45 (by decide), ← HPL2.out, ← HJP.out] at HWS
            clear hb2 HIT HD1
            go_wp2_with fail
            refine HWS.out.mono ?_
            rintro e W3 ⟨rfl, hdt⟩
            have HF := Lib.hid hdt
            clear hdt HWS HD2
            go_wp2_with fail
            go_roundw
            case rel => exact ⟨k + 1, by omega, by go_num, HF.out.bld, HF.out.bel⟩
            case measure => simp [intOf]; omega
      · obtain rfl : k = n := by omega
        have HST := Lib.hid (Tryd.Builder_String_any_k w.heap.size bb (by8 DL) wr (by rw [byteCells_by8 HDB.out, HDL.out]; exact HBK.out) HW.out.size)
        go_wp2_with fail
        refine HST.out.mono ?_
        rintro e w9 ⟨rfl, _, hb9, _⟩
        have HB9 := Lib.hid (HW.out.trans hb9)
        clear hb9
        go_wp2_with fail
        go_ret2
        exact HR.out _ _ ⟨rfl, HB9.out⟩
end Go.Proofs.YtcbhfhmpajamoaaDoor
