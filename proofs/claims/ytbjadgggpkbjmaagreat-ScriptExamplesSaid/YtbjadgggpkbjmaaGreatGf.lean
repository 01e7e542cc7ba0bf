/- Merged texts: E0, E1, E2. -/
import Derived.Test.YtbjadgggpkbjmaaGreatGe
namespace Go.Proofs.YtbjadgggpkbjmaaGreat
open Runes (bs bt bt_lt bt_ge bt_bd bs_inj extract_bs bts_bd)

/-- A list of bytes. -/
def BL (l : List Int) : Prop := ∀ x ∈ l, 0 ≤ x ∧ x < 256
theorem BL.app {l l' : List Int} (h : BL l) (h' : BL l') : BL (l ++ l') := fun x hx => (List.mem_append.1 hx).elim (h x) (h' x)
theorem BL.left {l l' : List Int} (h : BL (l ++ l')) : BL l := fun x hx => h x (List.mem_append.2 (.inl hx))
theorem BL.right {l l' : List Int} (h : BL (l ++ l')) : BL l' := fun x hx => h x (List.mem_append.2 (.inr hx))
theorem BL.take {l : List Int} (h : BL l) (n : Nat) : BL (l.take n) := fun x hx => h x (List.mem_of_mem_take hx)
theorem BL.drop {l : List Int} (h : BL l) (n : Nat) : BL (l.drop n) := fun x hx => h x (List.mem_of_mem_drop hx)
theorem BL.nil_ : BL [] := fun x hx => by cases hx
theorem BL.flat {α : Type} {f : α → List Int} {l : List α} (h : ∀ a ∈ l, BL (f a)) : BL (l.flatMap f) := fun x hx => by
  obtain ⟨a, ha, hx⟩ := List.mem_flatMap.1 hx
  exact h a ha x hx

/-- A number in n bytes, the highest first. -/
def num (v : Int) : Nat → List Int
  | 0 => []
  | n + 1 => num (v / 256) n ++ [v % 256]
def val (l : List Int) : Int := l.foldl (fun a x => a * 256 + x) 0
def bytesL (s : ByteArray) : List Int := (List.range s.size).map (bt s)
theorem bytesL_len (s : ByteArray) : (bytesL s).length = s.size := by simp [bytesL]
theorem bytesL_BL (s : ByteArray) : BL (bytesL s) := bts_bd
theorem bs_bytesL (s : ByteArray) : bs (bytesL s) = s := by
  have h := extract_bs (s := s) (n := s.size) (Nat.le_refl _)
  rw [ByteArray.extract_zero_size] at h
  exact h.symm
theorem bs_size (l : List Int) : (bs l).size = l.length := by simp [bs, ByteArray.size]
theorem bs_app (l l' : List Int) : bs l ++ bs l' = bs (l ++ l') := by
  apply ByteArray.ext
  simp [bs]
theorem bytesL_bs {l : List Int} (h : BL l) : bytesL (bs l) = l := by
  apply bs_inj _ _ (bytesL_BL _) h
  exact bs_bytesL _
theorem bs_take (l : List Int) (n : Nat) : (bs l).extract 0 n = bs (l.take n) := by
  apply ByteArray.ext
  simp [bs]
theorem bs_drop (l : List Int) (n : Nat) : (bs l).extract n (bs l).size = bs (l.drop n) := by
  rw [bs_size]
  apply ByteArray.ext
  simp [bs]
  rw [List.take_of_length_le (by simp)]
theorem bs_eq {l l' : List Int} (h : BL l) (h' : BL l') : bs l = bs l' ↔ l = l' := ⟨bs_inj _ _ h h', fun e => by rw [e]⟩
theorem bt_bs {l : List Int} (h : BL l) (i : Nat) (hi : i < l.length) : bt (bs l) i = l[i] := by
  have e := bytesL_bs h
  have hs := bs_size l
  have : (bytesL (bs l))[i]? = l[i]? := by rw [e]
  simp [bytesL, hs, hi] at this
  exact this

theorem num_len (v : Int) (n : Nat) : (num v n).length = n := by
  induction n generalizing v with
  | zero => rfl
  | succ n ih => simp [num, ih]
theorem num_BL (v : Int) (n : Nat) : BL (num v n) := by
  induction n generalizing v with
  | zero => exact BL.nil_
  | succ n ih =>
    refine (ih _).app ?_
    intro x hx
    simp at hx
    omega
theorem val_snoc (l : List Int) (x : Int) : val (l ++ [x]) = val l * 256 + x := by simp [val]
theorem val_num (n : Nat) (v : Int) (h0 : 0 ≤ v) (h1 : v < 256 ^ n) : val (num v n) = v := by
  induction n generalizing v with
  | zero =>
    simp at h1
    have : v = 0 := by omega
    subst this; rfl
  | succ n ih =>
    have hp : v / 256 < 256 ^ n := by
      rw [Int.pow_succ] at h1
      exact Int.ediv_lt_of_lt_mul (by omega) h1
    rw [num, val_snoc, ih _ (by omega) hp]
    omega
theorem list_snoc {α : Type} {l : List α} {n : Nat} (h : l.length = n + 1) : ∃ l' x, l = l' ++ [x] ∧ l'.length = n := by
  refine ⟨l.dropLast, l.getLast (by intro e; rw [e] at h; cases h), (List.dropLast_concat_getLast _).symm, by simp [h]⟩
theorem val_bd (l : List Int) (h : BL l) : 0 ≤ val l ∧ val l < 256 ^ l.length := by
  generalize hn : l.length = n
  induction n generalizing l with
  | zero =>
    have := List.eq_nil_of_length_eq_zero hn
    subst this; simp [val]
  | succ n ih =>
    obtain ⟨l', x, rfl, hl⟩ := list_snoc hn
    have h1 := ih l' h.left hl
    have h2 := h x (by simp)
    rw [val_snoc, Int.pow_succ]
    omega
theorem num_val (l : List Int) (h : BL l) : num (val l) l.length = l := by
  generalize hn : l.length = n
  induction n generalizing l with
  | zero =>
    have := List.eq_nil_of_length_eq_zero hn
    subst this; rfl
  | succ n ih =>
    obtain ⟨l', x, rfl, hl⟩ := list_snoc hn
    have h2 := h x (by simp)
    rw [val_snoc, num]
    have e1 : (val l' * 256 + x) / 256 = val l' := by omega
    have e2 : (val l' * 256 + x) % 256 = x := by omega
    rw [e1, e2, ih l' h.left hl]

/-! ### Encodings -/
def encText (t : ByteArray) : List Int := num t.size 2 ++ bytesL t
def encF (o : OpV) (f : Int) : List Int :=
  if f = 0 then num o.slot 1 else if f = 1 then num o.pos 2 else if f = 2 then num o.num 2 else if f = 3 then num o.id 4 else if f = 4 then num o.grav 1 else encText o.text
def encFs (o : OpV) (fs : List Int) : List Int := fs.flatMap (encF o)
def encOp (o : OpV) : List Int := num o.kind 1 ++ encFs o (fieldsOf o.kind)
def encOps (p : List OpV) : List Int := p.flatMap encOp
def encProg (p : List OpV) : List Int := num p.length 2 ++ encOps p
def encProgs (ps : List (List OpV)) : List Int := ps.flatMap encProg
def encPicks (ks : List Int) : List Int := ks.flatMap fun k => num k 1
def encCfg (c : CfgV) : List Int :=
  num c.slots 2 ++ num c.gens 4 ++ num c.clients 1 ++ num c.readers 1 ++ num c.queue 1 ++ num c.batch 1 ++ num c.feed 1 ++ encText c.text
def encScr (s : ScrV) : List Int := encCfg s.cfg ++ encProgs s.progs ++ num s.picks.length 2 ++ encPicks s.picks

theorem encText_BL (t : ByteArray) : BL (encText t) := (num_BL _ _).app (bytesL_BL t)
theorem encF_BL (o : OpV) (f : Int) : BL (encF o f) := by
  unfold encF
  repeat' split
  all_goals (first | exact num_BL _ _ | exact encText_BL _)
theorem encFs_BL (o : OpV) (fs : List Int) : BL (encFs o fs) := BL.flat fun f _ => encF_BL o f
theorem encOp_BL (o : OpV) : BL (encOp o) := (num_BL _ _).app (encFs_BL _ _)
theorem encOps_BL (p : List OpV) : BL (encOps p) := BL.flat fun o _ => encOp_BL o
theorem encProg_BL (p : List OpV) : BL (encProg p) := (num_BL _ _).app (encOps_BL _)
theorem encProgs_BL (ps : List (List OpV)) : BL (encProgs ps) := BL.flat fun o _ => encProg_BL o
theorem encPicks_BL (ks : List Int) : BL (encPicks ks) := BL.flat fun k _ => num_BL k 1
theorem encCfg_BL (c : CfgV) : BL (encCfg c) :=
  ((((((((num_BL _ _).app (num_BL _ _)).app (num_BL _ _)).app (num_BL _ _)).app (num_BL _ _)).app (num_BL _ _)).app (num_BL _ _)).app (encText_BL _))
theorem encScr_BL (s : ScrV) : BL (encScr s) := (((encCfg_BL _).app (encProgs_BL _)).app (num_BL _ _)).app (encPicks_BL _)
theorem encPicks_len (ks : List Int) : (encPicks ks).length = ks.length := by
  induction ks with
  | nil => rfl
  | cons k ks ih => simp only [encPicks, List.flatMap_cons, List.length_append, num_len] at *; rw [ih]; simp; omega

/-! ### Validity -/
def zeroF (o : OpV) (f : Int) : Prop :=
  if f = 0 then o.slot = 0 else if f = 1 then o.pos = 0 else if f = 2 then o.num = 0 else if f = 3 then o.id = 0 else if f = 4 then o.grav = 0 else o.text.size = 0
def fitF (o : OpV) (f : Int) : Prop :=
  if f = 0 then 0 ≤ o.slot ∧ o.slot ≤ 255 else if f = 1 then 0 ≤ o.pos ∧ o.pos ≤ 65535 else if f = 2 then 0 ≤ o.num ∧ o.num ≤ 65535 else if f = 3 then True else if f = 4 then True else o.text.size ≤ 256
def uses (k f : Int) : Bool := (fieldsOf k).contains f
def okF (o : OpV) (f : Int) : Prop := if uses o.kind f then fitF o f else zeroF o f
structure PlainOp (o : OpV) : Prop where
  kind : 1 ≤ o.kind ∧ o.kind ≤ 16
  f0 : okF o 0
  f1 : okF o 1
  f2 : okF o 2
  f3 : okF o 3
  f4 : okF o 4
  f5 : okF o 5
theorem PlainOp.slot {o : OpV} (h : PlainOp o) : 0 ≤ o.slot ∧ o.slot ≤ 255 := by
  have := h.f0; unfold okF at this; split at this <;> simp [fitF, zeroF] at this <;> omega
theorem PlainOp.pos {o : OpV} (h : PlainOp o) : 0 ≤ o.pos ∧ o.pos ≤ 65535 := by
  have := h.f1; unfold okF at this; split at this <;> simp [fitF, zeroF] at this <;> omega
theorem PlainOp.num {o : OpV} (h : PlainOp o) : 0 ≤ o.num ∧ o.num ≤ 65535 := by
  have := h.f2; unfold okF at this; split at this <;> simp [fitF, zeroF] at this <;> omega
theorem PlainOp.text {o : OpV} (h : PlainOp o) : o.text.size ≤ 256 := by
  have := h.f5
  unfold okF at this
  split at this
  · exact this
  · have h0 : o.text.size = 0 := this
    omega

open Classical in
/-- The error of a program, 0 if there is none. -/
noncomputable def progErr (p : List OpV) : Int := if 256 < p.length then 5 else if ∀ o ∈ p, PlainOp o then 0 else 2
noncomputable def progsErr : List (List OpV) → Int
  | [] => 0
  | p :: ps => if progErr p ≠ 0 then progErr p else progsErr ps
open Classical in
/-- The error of a script, 0 if there is none. -/
noncomputable def chkScr (s : ScrV) : Int :=
  if cfgErr s.cfg ≠ 0 then cfgErr s.cfg else if (s.progs.length : Int) ≠ s.cfg.clients then 2 else if progsErr s.progs ≠ 0 then progsErr s.progs
  else if 65535 < s.picks.length then 5 else if ¬ ∀ k ∈ s.picks, 0 ≤ k ∧ k ≤ s.cfg.clients then 2 else if 65536 < (encScr s).length then 5 else 0

theorem progErr_iff (p : List OpV) : progErr p = 0 ↔ p.length ≤ 256 ∧ ∀ o ∈ p, PlainOp o := by
  unfold progErr
  by_cases h : 256 < p.length
  · rw [if_pos h]; constructor
    · intro h; cases h
    · intro h'; omega
  · rw [if_neg h]
    by_cases h2 : ∀ o ∈ p, PlainOp o
    · rw [if_pos h2]; exact ⟨fun _ => ⟨by omega, h2⟩, fun _ => rfl⟩
    · rw [if_neg h2]; constructor
      · intro h; cases h
      · intro h'; exact absurd h'.2 h2
theorem progsErr_iff (ps : List (List OpV)) : progsErr ps = 0 ↔ ∀ p ∈ ps, p.length ≤ 256 ∧ ∀ o ∈ p, PlainOp o := by
  induction ps with
  | nil => simp [progsErr]
  | cons p ps ih =>
    rw [progsErr]
    by_cases h : progErr p = 0
    · rw [if_neg (by simp [h]), ih]
      have := (progErr_iff p).1 h
      constructor
      · intro h2 q hq
        rcases List.mem_cons.1 hq with rfl | hq
        · exact this
        · exact h2 q hq
      · intro h2 q hq
        exact h2 q (List.mem_cons_of_mem _ hq)
    · rw [if_pos h]
      constructor
      · intro h2; exact absurd h2 h
      · intro h2; exact absurd ((progErr_iff p).2 (h2 p (by simp))) h
/-- A valid script. -/
structure ScrOk (s : ScrV) : Prop where
  cfg : cfgErr s.cfg = 0
  len : (s.progs.length : Int) = s.cfg.clients
  progs : ∀ p ∈ s.progs, p.length ≤ 256 ∧ ∀ o ∈ p, PlainOp o
  picks : s.picks.length ≤ 65535
  pick : ∀ k ∈ s.picks, 0 ≤ k ∧ k ≤ s.cfg.clients
  size : (encScr s).length ≤ 65536
theorem chk_iff (s : ScrV) : chkScr s = 0 ↔ ScrOk s := by
  unfold chkScr
  constructor
  · intro h
    by_cases h1 : cfgErr s.cfg ≠ 0
    · rw [if_pos h1] at h; exact absurd h h1
    rw [if_neg h1] at h
    by_cases h2 : (s.progs.length : Int) ≠ s.cfg.clients
    · rw [if_pos h2] at h; cases h
    rw [if_neg h2] at h
    by_cases h3 : progsErr s.progs ≠ 0
    · rw [if_pos h3] at h; exact absurd h h3
    rw [if_neg h3] at h
    by_cases h4 : 65535 < s.picks.length
    · rw [if_pos h4] at h; cases h
    rw [if_neg h4] at h
    by_cases h5 : ¬ ∀ k ∈ s.picks, 0 ≤ k ∧ k ≤ s.cfg.clients
    · rw [if_pos h5] at h; cases h
    rw [if_neg h5] at h
    by_cases h6 : 65536 < (encScr s).length
    · rw [if_pos h6] at h; cases h
    exact ⟨Classical.not_not.1 h1, Classical.not_not.1 h2, (progsErr_iff _).1 (Classical.not_not.1 h3), by omega, Classical.not_not.1 h5, by omega⟩
  · intro h
    rw [if_neg (by simp [h.cfg]), if_neg (by simp [h.len]), if_neg (by simp [(progsErr_iff _).2 h.progs]), if_neg (by have := h.picks; omega), if_neg (by simpa using h.pick), if_neg (by have := h.size; omega)]

/-! ### Decodings -/
def dNum (l : List Int) (n : Nat) : Option (Int × List Int) := if n ≤ l.length then some (val (l.take n), l.drop n) else none
def dTake (l : List Int) (n : Nat) : Option (List Int × List Int) := if n ≤ l.length then some (l.take n, l.drop n) else none
def dText (l : List Int) : Option (ByteArray × List Int) := (dNum l 2).bind fun y => (dTake y.2 y.1.toNat).map fun z => (bs z.1, z.2)
def dF (f : Int) (x : OpV × List Int) : Option (OpV × List Int) :=
  if f = 0 then (dNum x.2 1).map fun y => ({ x.1 with slot := y.1 }, y.2)
  else if f = 1 then (dNum x.2 2).map fun y => ({ x.1 with pos := y.1 }, y.2)
  else if f = 2 then (dNum x.2 2).map fun y => ({ x.1 with num := y.1 }, y.2)
  else if f = 3 then (dNum x.2 4).map fun y => ({ x.1 with id := y.1 }, y.2)
  else if f = 4 then (dNum x.2 1).map fun y => ({ x.1 with grav := y.1 }, y.2)
  else (dText x.2).map fun y => ({ x.1 with text := y.1 }, y.2)
def dFs : List Int → OpV × List Int → Option (OpV × List Int)
  | [], x => some x
  | f :: fs, x => (dF f x).bind (dFs fs)
def dOp (l : List Int) : Option (OpV × List Int) := (dNum l 1).bind fun y => if 1 ≤ y.1 ∧ y.1 ≤ 16 then dFs (fieldsOf y.1) (op0 y.1, y.2) else none
def dOps : Nat → List Int → Option (List OpV × List Int)
  | 0, l => some ([], l)
  | n + 1, l => (dOps n l).bind fun y => (dOp y.2).map fun z => (y.1 ++ [z.1], z.2)
def dProgs : Nat → List Int → Option (List (List OpV) × List Int)
  | 0, l => some ([], l)
  | n + 1, l => (dProgs n l).bind fun y => (dNum y.2 2).bind fun z => (dOps z.1.toNat z.2).map fun u => (y.1 ++ [u.1], u.2)
def dCfg (l : List Int) : Option (CfgV × List Int) :=
  (dNum l 2).bind fun a => (dNum a.2 4).bind fun b => (dNum b.2 1).bind fun c => (dNum c.2 1).bind fun d => (dNum d.2 1).bind fun e => (dNum e.2 1).bind fun g => (dNum g.2 1).bind fun h =>
    (dText h.2).map fun t => (⟨a.1, b.1, c.1, d.1, e.1, g.1, h.1, t.1⟩, t.2)
def dPicks (l : List Int) : Option (List Int × List Int) := (dNum l 2).bind fun y => dTake y.2 y.1.toNat
def dScr (l : List Int) : Option (ScrV × List Int) :=
  (dCfg l).bind fun c => (dProgs c.1.clients.toNat c.2).bind fun p => (dPicks p.2).map fun k => (⟨c.1, p.1, k.1⟩, k.2)

/-! ### What is encoded is decoded -/
theorem dNum_num {v : Int} {n : Nat} (r : List Int) (h0 : 0 ≤ v) (h1 : v < 256 ^ n) : dNum (num v n ++ r) n = some (v, r) := by
  unfold dNum
  have hl := num_len v n
  rw [if_pos (by simp [hl]), List.take_left' hl, List.drop_left' hl, val_num n v h0 h1]
theorem dTake_app (l r : List Int) (n : Nat) (h : n = l.length) : dTake (l ++ r) n = some (l, r) := by
  subst h
  unfold dTake
  rw [if_pos (by simp), List.take_left' rfl, List.drop_left' rfl]
theorem pow1 : (256 : Int) ^ 1 = 256 := by decide
theorem pow2 : (256 : Int) ^ 2 = 65536 := by decide
theorem pow4 : (256 : Int) ^ 4 = 4294967296 := by decide
theorem dText_enc (t : ByteArray) (r : List Int) (h : t.size < 65536) : dText (encText t ++ r) = some (t, r) := by
  unfold dText encText
  rw [List.append_assoc, dNum_num _ (by omega) (by rw [pow2]; omega)]
  simp only [Option.bind_some]
  rw [dTake_app _ _ _ (by rw [bytesL_len]; omega)]
  simp [bs_bytesL]
/-- Field f of x, put into o. -/
def putF (x : OpV) (f : Int) (o : OpV) : OpV :=
  if f = 0 then { o with slot := x.slot } else if f = 1 then { o with pos := x.pos } else if f = 2 then { o with num := x.num }
  else if f = 3 then { o with id := x.id } else if f = 4 then { o with grav := x.grav } else { o with text := x.text }
/-- Numbers of their types. -/
structure OpTy (o : OpV) : Prop where
  id : 0 ≤ o.id ∧ o.id < 4294967296
  grav : 0 ≤ o.grav ∧ o.grav < 256
def ScrTy (s : ScrV) : Prop := ∀ p ∈ s.progs, ∀ o ∈ p, OpTy o

theorem dF_enc (x o : OpV) (f : Int) (r : List Int) (hp : PlainOp x) (ht : OpTy x) : dF f (o, encF x f ++ r) = some (putF x f o, r) := by
  have h0 := hp.slot
  have h1 := hp.pos
  have h2 := hp.num
  have h3 := ht.id
  have h4 := ht.grav
  have h5 := hp.text
  unfold dF encF putF
  by_cases e0 : f = 0
  · simp only [if_pos e0]; rw [dNum_num _ h0.1 (by rw [pow1]; omega)]; rfl
  by_cases e1 : f = 1
  · simp only [if_neg e0, if_pos e1]; rw [dNum_num _ h1.1 (by rw [pow2]; omega)]; rfl
  by_cases e2 : f = 2
  · simp only [if_neg e0, if_neg e1, if_pos e2]; rw [dNum_num _ h2.1 (by rw [pow2]; omega)]; rfl
  by_cases e3 : f = 3
  · simp only [if_neg e0, if_neg e1, if_neg e2, if_pos e3]; rw [dNum_num _ h3.1 (by rw [pow4]; omega)]; rfl
  by_cases e4 : f = 4
  · simp only [if_neg e0, if_neg e1, if_neg e2, if_neg e3, if_pos e4]; rw [dNum_num _ h4.1 (by rw [pow1]; omega)]; rfl
  · simp only [if_neg e0, if_neg e1, if_neg e2, if_neg e3, if_neg e4]; rw [dText_enc _ _ (by omega)]; rfl
theorem dFs_enc (x : OpV) (fs : List Int) (o : OpV) (r : List Int) (hp : PlainOp x) (ht : OpTy x) : dFs fs (o, encFs x fs ++ r) = some (fs.foldl (fun o f => putF x f o) o, r) := by
  induction fs generalizing o with
  | nil => rfl
  | cons f fs ih =>
    have e : encFs x (f :: fs) ++ r = encF x f ++ (encFs x fs ++ r) := by simp [encFs]
    rw [e, dFs, dF_enc x o f _ hp ht, Option.bind_some, ih]
    rfl
theorem empty_of {t : ByteArray} (h : t.size = 0) : t = ByteArray.empty := by
  apply ByteArray.ext
  exact Array.eq_empty_of_size_eq_zero h
theorem fold_put (x : OpV) (hp : PlainOp x) : (fieldsOf x.kind).foldl (fun o f => putF x f o) (op0 x.kind) = x := by
  obtain ⟨k, s, p, n, i, g, t⟩ := x
  obtain ⟨hk, f0, f1, f2, f3, f4, f5⟩ := hp
  dsimp only at hk
  have hk' : k = 1 ∨ k = 2 ∨ k = 3 ∨ k = 4 ∨ k = 5 ∨ k = 6 ∨ k = 7 ∨ k = 8 ∨ k = 9 ∨ k = 10 ∨ k = 11 ∨ k = 12 ∨ k = 13 ∨ k = 14 ∨ k = 15 ∨ k = 16 := by omega
  clear hk
  rcases hk' with rfl | rfl | rfl | rfl | rfl | rfl | rfl | rfl | rfl | rfl | rfl | rfl | rfl | rfl | rfl | rfl
  all_goals
    simp [okF, uses, fieldsOf, zeroF, fitF] at f0 f1 f2 f3 f4 f5
    simp only [fieldsOf, op0, putF]
    simp [*]
    try exact (empty_of (by assumption)).symm
theorem dOp_enc (x : OpV) (r : List Int) (hp : PlainOp x) (ht : OpTy x) : dOp (encOp x ++ r) = some (x, r) := by
  unfold dOp encOp
  have hk := hp.kind
  rw [List.append_assoc, dNum_num _ (by omega) (by rw [pow1]; omega), Option.bind_some]
  simp only
  rw [if_pos hk, dFs_enc x _ _ _ hp ht, fold_put x hp]
theorem encOps_snoc (p : List OpV) (o : OpV) : encOps (p ++ [o]) = encOps p ++ encOp o := by simp [encOps]
theorem encProgs_snoc (p : List (List OpV)) (o : List OpV) : encProgs (p ++ [o]) = encProgs p ++ encProg o := by simp [encProgs]
theorem dOps_enc (n : Nat) : ∀ (p : List OpV) (r : List Int), p.length = n → (∀ o ∈ p, PlainOp o ∧ OpTy o) → dOps n (encOps p ++ r) = some (p, r) := by
  induction n with
  | zero =>
    intro p r hl _
    have := List.eq_nil_of_length_eq_zero hl
    subst this; rfl
  | succ n ih =>
    intro p r hl h
    obtain ⟨p', o, rfl, hl'⟩ := list_snoc hl
    have ho := h o (by simp)
    rw [encOps_snoc, List.append_assoc, dOps, ih p' _ hl' (fun q hq => h q (by simp [hq])), Option.bind_some]
    simp only
    rw [dOp_enc o r ho.1 ho.2]
    rfl
theorem dProgs_enc (n : Nat) : ∀ (ps : List (List OpV)) (r : List Int), ps.length = n → (∀ p ∈ ps, p.length ≤ 256 ∧ ∀ o ∈ p, PlainOp o ∧ OpTy o) → dProgs n (encProgs ps ++ r) = some (ps, r) := by
  induction n with
  | zero =>
    intro p r hl _
    have := List.eq_nil_of_length_eq_zero hl
    subst this; rfl
  | succ n ih =>
    intro ps r hl h
    obtain ⟨ps', p, rfl, hl'⟩ := list_snoc hl
    have hp := h p (by simp)
    rw [encProgs_snoc, List.append_assoc, dProgs, ih ps' _ hl' (fun q hq => h q (by simp [hq])), Option.bind_some]
    simp only [encProg]
    rw [List.append_assoc, dNum_num _ (by omega) (by rw [pow2]; omega), Option.bind_some]
    simp only
    rw [dOps_enc _ p r (by simp) hp.2]
    rfl
theorem encPicks_eq (ks : List Int) (h : ∀ k ∈ ks, 0 ≤ k ∧ k < 256) : encPicks ks = ks := by
  induction ks with
  | nil => rfl
  | cons k ks ih =>
    have hk := h k (by simp)
    have e : num k 1 = [k] := by simp only [num]; simp; omega
    have := ih (fun q hq => h q (by simp [hq]))
    simp only [encPicks, List.flatMap_cons, e] at *
    rw [this]; rfl
theorem dPicks_enc (ks : List Int) (r : List Int) (h : ∀ k ∈ ks, 0 ≤ k ∧ k < 256) (hl : ks.length ≤ 65535) : dPicks (num ks.length 2 ++ encPicks ks ++ r) = some (ks, r) := by
  unfold dPicks
  rw [List.append_assoc, dNum_num _ (by omega) (by rw [pow2]; omega), Option.bind_some, encPicks_eq ks h]
  exact dTake_app _ _ _ (by simp)
theorem cfgErr_in {c : CfgV} (h : cfgErr c = 0) : CfgIn c := by
  apply Classical.byContradiction
  intro hn
  unfold cfgErr at h
  rw [if_neg hn] at h
  cases h
theorem dCfg_enc (c : CfgV) (r : List Int) (h : cfgErr c = 0) (ht : c.text.size < 65536) : dCfg (encCfg c ++ r) = some (c, r) := by
  have hc := cfgErr_in h
  obtain ⟨⟨h1, h2⟩, ⟨h3, h4⟩, h5, h6, h7⟩ := hc
  unfold dCfg encCfg
  simp only [List.append_assoc]
  rw [dNum_num _ (by omega) (by rw [pow2]; omega)]; simp only [Option.bind_some]
  rw [dNum_num _ (by omega) (by rw [pow4]; omega)]; simp only [Option.bind_some]
  rw [dNum_num _ (by omega) (by rw [pow1]; omega)]; simp only [Option.bind_some]
  rw [dNum_num _ (by omega) (by rw [pow1]; omega)]; simp only [Option.bind_some]
  rw [dNum_num _ (by omega) (by rw [pow1]; omega)]; simp only [Option.bind_some]
  rw [dNum_num _ (by omega) (by rw [pow1]; omega)]; simp only [Option.bind_some]
  rw [dNum_num _ (by omega) (by rw [pow1]; omega)]; simp only [Option.bind_some]
  rw [dText_enc _ _ ht]
  rfl
theorem encCfg_len (c : CfgV) : (encCfg c).length = 13 + c.text.size := by
  simp [encCfg, num_len, encText, bytesL_len]; omega
theorem encScr_len (s : ScrV) : (encScr s).length = 15 + s.cfg.text.size + (encProgs s.progs).length + s.picks.length := by
  simp only [encScr, List.length_append, encCfg_len, num_len, encPicks_len]; omega
theorem dScr_enc (s : ScrV) (r : List Int) (h : ScrOk s) (ht : ScrTy s) : dScr (encScr s ++ r) = some (s, r) := by
  have hc := cfgErr_in h.cfg
  have hl := h.size
  rw [encScr_len] at hl
  obtain ⟨_, ⟨h3, _⟩, _⟩ := hc
  have hlen := h.len
  unfold dScr
  simp only [encScr, List.append_assoc]
  rw [dCfg_enc _ _ h.cfg (by omega)]; simp only [Option.bind_some]
  rw [dProgs_enc _ _ _ (by omega) (fun p hp => ⟨(h.progs p hp).1, fun o ho => ⟨(h.progs p hp).2 o ho, ht p hp o ho⟩⟩)]; simp only [Option.bind_some]
  rw [← List.append_assoc, dPicks_enc _ _ (fun k hk => by have := h.pick k hk; omega) h.picks]
  rfl

/-! ### What is decoded is encoded so -/
theorem dNum_some {l r : List Int} {n : Nat} {v : Int} (hl : BL l) (h : dNum l n = some (v, r)) : num v n ++ r = l ∧ 0 ≤ v ∧ v < 256 ^ n ∧ BL r := by
  unfold dNum at h
  split at h
  · rename_i hn
    simp only [Option.some.injEq, Prod.mk.injEq] at h
    obtain ⟨rfl, rfl⟩ := h
    have hlen : (l.take n).length = n := by simp; omega
    have h1 := num_val _ (hl.take n)
    have h2 := val_bd _ (hl.take n)
    rw [hlen] at h1 h2
    exact ⟨by rw [h1]; exact List.take_append_drop n l, h2.1, h2.2, hl.drop n⟩
  · cases h
theorem dTake_some {l t r : List Int} {n : Nat} (hl : BL l) (h : dTake l n = some (t, r)) : t ++ r = l ∧ t.length = n ∧ BL t ∧ BL r := by
  unfold dTake at h
  split at h
  · rename_i hn
    simp only [Option.some.injEq, Prod.mk.injEq] at h
    obtain ⟨rfl, rfl⟩ := h
    exact ⟨List.take_append_drop n l, by simp; omega, hl.take n, hl.drop n⟩
  · cases h
theorem dText_some {l r : List Int} {t : ByteArray} (hl : BL l) (h : dText l = some (t, r)) : encText t ++ r = l ∧ BL r := by
  unfold dText at h
  simp only [Option.bind_eq_some_iff, Option.map_eq_some_iff] at h
  obtain ⟨⟨v, r1⟩, h1, ⟨t1, r2⟩, h2, h3⟩ := h
  simp only [Prod.mk.injEq] at h3
  obtain ⟨rfl, rfl⟩ := h3
  obtain ⟨e1, v0, v1, b1⟩ := dNum_some hl h1
  obtain ⟨e2, l2, b2, b3⟩ := dTake_some b1 h2
  refine ⟨?_, b3⟩
  unfold encText
  have hv : ((bs t1).size : Int) = v := by rw [bs_size, l2]; simp only; omega
  rw [hv, bytesL_bs b2, List.append_assoc, e2, e1]
def in5 (f : Int) : Prop := f = 0 ∨ f = 1 ∨ f = 2 ∨ f = 3 ∨ f = 4 ∨ f = 5
theorem dF_some {f : Int} {o o' : OpV} {l r : List Int} (hf : in5 f) (hl : BL l) (h : dF f (o, l) = some (o', r)) :
    encF o' f ++ r = l ∧ BL r ∧ (∀ g, in5 g → g ≠ f → encF o' g = encF o g) ∧ (OpTy o → OpTy o') ∧ o'.kind = o.kind := by
  have go : ∀ {n : Nat} {mk : Int → OpV}, (dNum l n).map (fun y => (mk y.1, y.2)) = some (o', r) → ∃ v, o' = mk v ∧ num v n ++ r = l ∧ 0 ≤ v ∧ v < 256 ^ n ∧ BL r := by
    intro n mk h
    simp only [Option.map_eq_some_iff, Prod.mk.injEq] at h
    obtain ⟨⟨v, r1⟩, h1, e1, e2⟩ := h
    dsimp only at e1 e2
    subst e2
    exact ⟨v, e1.symm, dNum_some hl h1⟩
  unfold dF at h
  rcases hf with rfl | rfl | rfl | rfl | rfl | rfl
  · obtain ⟨v, rfl, e, v0, v1, b⟩ := go (mk := fun y => { o with slot := y }) (by simpa using h)
    refine ⟨by simpa [encF] using e, b, fun g hg hne => ?_, fun ht => ⟨ht.id, ht.grav⟩, rfl⟩
    rcases hg with rfl | rfl | rfl | rfl | rfl | rfl <;> first | exact absurd rfl hne | simp [encF]
  · obtain ⟨v, rfl, e, v0, v1, b⟩ := go (mk := fun y => { o with pos := y }) (by simpa using h)
    refine ⟨by simpa [encF] using e, b, fun g hg hne => ?_, fun ht => ⟨ht.id, ht.grav⟩, rfl⟩
    rcases hg with rfl | rfl | rfl | rfl | rfl | rfl <;> first | exact absurd rfl hne | simp [encF]
  · obtain ⟨v, rfl, e, v0, v1, b⟩ := go (mk := fun y => { o with num := y }) (by simpa using h)
    refine ⟨by simpa [encF] using e, b, fun g hg hne => ?_, fun ht => ⟨ht.id, ht.grav⟩, rfl⟩
    rcases hg with rfl | rfl | rfl | rfl | rfl | rfl <;> first | exact absurd rfl hne | simp [encF]
  · obtain ⟨v, rfl, e, v0, v1, b⟩ := go (mk := fun y => { o with id := y }) (by simpa using h)
    refine ⟨by simpa [encF] using e, b, fun g hg hne => ?_, fun ht => ⟨⟨v0, by rw [pow4] at v1; exact v1⟩, ht.grav⟩, rfl⟩
    rcases hg with rfl | rfl | rfl | rfl | rfl | rfl <;> first | exact absurd rfl hne | simp [encF]
  · obtain ⟨v, rfl, e, v0, v1, b⟩ := go (mk := fun y => { o with grav := y }) (by simpa using h)
    refine ⟨by simpa [encF] using e, b, fun g hg hne => ?_, fun ht => ⟨ht.id, ⟨v0, by rw [pow1] at v1; exact v1⟩⟩, rfl⟩
    rcases hg with rfl | rfl | rfl | rfl | rfl | rfl <;> first | exact absurd rfl hne | simp [encF]
  · have h' : (dText l).map (fun y => ({ o with text := y.1 }, y.2)) = some (o', r) := by simpa using h
    simp only [Option.map_eq_some_iff, Prod.mk.injEq] at h'
    obtain ⟨⟨t, r1⟩, h1, rfl, rfl⟩ := h'
    obtain ⟨e, b⟩ := dText_some hl h1
    refine ⟨by simpa [encF] using e, b, fun g hg hne => ?_, fun ht => ⟨ht.id, ht.grav⟩, rfl⟩
    rcases hg with rfl | rfl | rfl | rfl | rfl | rfl <;> first | exact absurd rfl hne | simp [encF]
theorem dFs_some (fs : List Int) : ∀ {o o' : OpV} {l r : List Int}, (∀ f ∈ fs, in5 f) → fs.Nodup → BL l → dFs fs (o, l) = some (o', r) →
    encFs o' fs ++ r = l ∧ BL r ∧ (∀ g, in5 g → g ∉ fs → encF o' g = encF o g) ∧ (OpTy o → OpTy o') ∧ o'.kind = o.kind := by
  induction fs with
  | nil =>
    intro o o' l r _ _ hl h
    simp only [dFs, Option.some.injEq, Prod.mk.injEq] at h
    obtain ⟨rfl, rfl⟩ := h
    exact ⟨rfl, hl, fun _ _ _ => rfl, id, rfl⟩
  | cons f fs ih =>
    intro o o' l r hf hn hl h
    simp only [dFs, Option.bind_eq_some_iff] at h
    obtain ⟨⟨o1, l1⟩, h1, h2⟩ := h
    have hn' := List.nodup_cons.1 hn
    obtain ⟨e1, b1, k1, t1, q1⟩ := dF_some (hf f (by simp)) hl h1
    obtain ⟨e2, b2, k2, t2, q2⟩ := ih (fun g hg => hf g (by simp [hg])) hn'.2 b1 h2
    refine ⟨?_, b2, fun g hg hng => ?_, fun ht => t2 (t1 ht), q2.trans q1⟩
    · have e : encFs o' (f :: fs) ++ r = encF o' f ++ (encFs o' fs ++ r) := by simp [encFs]
      rw [e, e2, k2 f (hf f (by simp)) hn'.1, e1]
    · simp only [List.mem_cons, not_or] at hng
      rw [k2 g hg hng.2, k1 g hg hng.1]
theorem nodup_ite {c : Prop} [Decidable c] {a b : List Int} (ha : a.Nodup) (hb : b.Nodup) : (if c then a else b).Nodup := by split <;> assumption
theorem fields_nodup (k : Int) : (fieldsOf k).Nodup := by
  unfold fieldsOf
  repeat (refine nodup_ite (by decide) ?_)
  decide
theorem dOp_some {o : OpV} {l r : List Int} (hl : BL l) (h : dOp l = some (o, r)) : encOp o ++ r = l ∧ BL r ∧ OpTy o := by
  unfold dOp at h
  simp only [Option.bind_eq_some_iff] at h
  obtain ⟨⟨k, l1⟩, h1, h2⟩ := h
  obtain ⟨e1, v0, v1, b1⟩ := dNum_some hl h1
  dsimp only at h2
  split at h2
  · obtain ⟨e2, b2, _, t2, q2⟩ := dFs_some (fieldsOf k) (fun f hf => by have := (fieldsOf_bd k).2 f hf; unfold in5; omega) (fields_nodup k) b1 h2
    have q : o.kind = k := q2
    refine ⟨?_, b2, t2 ⟨by show (0 : Int) ≤ 0 ∧ (0 : Int) < 4294967296; omega, by show (0 : Int) ≤ 0 ∧ (0 : Int) < 256; omega⟩⟩
    unfold encOp
    rw [q, List.append_assoc, e2, e1]
  · cases h2
theorem dOps_some (n : Nat) : ∀ {p : List OpV} {l r : List Int}, BL l → dOps n l = some (p, r) → encOps p ++ r = l ∧ BL r ∧ p.length = n ∧ ∀ o ∈ p, OpTy o := by
  induction n with
  | zero =>
    intro p l r hl h
    simp only [dOps, Option.some.injEq, Prod.mk.injEq] at h
    obtain ⟨rfl, rfl⟩ := h
    exact ⟨rfl, hl, rfl, fun o ho => by cases ho⟩
  | succ n ih =>
    intro p l r hl h
    simp only [dOps, Option.bind_eq_some_iff, Option.map_eq_some_iff] at h
    obtain ⟨⟨p1, l1⟩, h1, ⟨o, l2⟩, h2, h3⟩ := h
    simp only [Prod.mk.injEq] at h3
    obtain ⟨rfl, rfl⟩ := h3
    obtain ⟨e1, b1, n1, t1⟩ := ih hl h1
    obtain ⟨e2, b2, t2⟩ := dOp_some b1 h2
    refine ⟨by rw [encOps_snoc, List.append_assoc, e2, e1], b2, by simp [n1], fun q hq => ?_⟩
    rcases List.mem_append.1 hq with hq | hq
    · exact t1 q hq
    · simp at hq; subst hq; exact t2
theorem dProgs_some (n : Nat) : ∀ {p : List (List OpV)} {l r : List Int}, BL l → dProgs n l = some (p, r) → encProgs p ++ r = l ∧ BL r ∧ p.length = n ∧ ∀ q ∈ p, ∀ o ∈ q, OpTy o := by
  induction n with
  | zero =>
    intro p l r hl h
    simp only [dProgs, Option.some.injEq, Prod.mk.injEq] at h
    obtain ⟨rfl, rfl⟩ := h
    exact ⟨rfl, hl, rfl, fun o ho => by cases ho⟩
  | succ n ih =>
    intro p l r hl h
    simp only [dProgs, Option.bind_eq_some_iff, Option.map_eq_some_iff] at h
    obtain ⟨⟨p1, l1⟩, h1, ⟨v, l2⟩, h2, ⟨u, l3⟩, h3, h4⟩ := h
    simp only [Prod.mk.injEq] at h4
    obtain ⟨rfl, rfl⟩ := h4
    obtain ⟨e1, b1, n1, t1⟩ := ih hl h1
    obtain ⟨e2, v0, v1, b2⟩ := dNum_some b1 h2
    obtain ⟨e3, b3, n3, t3⟩ := dOps_some _ b2 h3
    refine ⟨?_, b3, by simp [n1], fun q hq => ?_⟩
    · have hv : ((u.length : Nat) : Int) = v := by rw [n3]; simp only; omega
      rw [encProgs_snoc, encProg, hv, List.append_assoc, List.append_assoc, e3, e2, e1]
    · rcases List.mem_append.1 hq with hq | hq
      · exact t1 q hq
      · simp at hq; subst hq; exact t3
theorem dPicks_some {ks l r : List Int} (hl : BL l) (h : dPicks l = some (ks, r)) : num ks.length 2 ++ encPicks ks ++ r = l ∧ BL r := by
  unfold dPicks at h
  simp only [Option.bind_eq_some_iff] at h
  obtain ⟨⟨v, l1⟩, h1, h2⟩ := h
  obtain ⟨e1, v0, v1, b1⟩ := dNum_some hl h1
  obtain ⟨e2, n2, b2, b3⟩ := dTake_some b1 h2
  refine ⟨?_, b3⟩
  have hv : ((ks.length : Nat) : Int) = v := by rw [n2]; simp only; omega
  rw [hv, encPicks_eq ks b2, List.append_assoc, e2, e1]
theorem dCfg_some {c : CfgV} {l r : List Int} (hl : BL l) (h : dCfg l = some (c, r)) : encCfg c ++ r = l ∧ BL r ∧ 0 ≤ c.clients := by
  unfold dCfg at h
  simp only [Option.bind_eq_some_iff, Option.map_eq_some_iff] at h
  obtain ⟨⟨a1, l1⟩, h1, ⟨a2, l2⟩, h2, ⟨a3, l3⟩, h3, ⟨a4, l4⟩, h4, ⟨a5, l5⟩, h5, ⟨a6, l6⟩, h6, ⟨a7, l7⟩, h7, ⟨t, l8⟩, h8, h9⟩ := h
  simp only [Prod.mk.injEq] at h9
  obtain ⟨rfl, rfl⟩ := h9
  obtain ⟨e1, _, _, b1⟩ := dNum_some hl h1
  obtain ⟨e2, _, _, b2⟩ := dNum_some b1 h2
  obtain ⟨e3, p3, _, b3⟩ := dNum_some b2 h3
  obtain ⟨e4, _, _, b4⟩ := dNum_some b3 h4
  obtain ⟨e5, _, _, b5⟩ := dNum_some b4 h5
  obtain ⟨e6, _, _, b6⟩ := dNum_some b5 h6
  obtain ⟨e7, _, _, b7⟩ := dNum_some b6 h7
  obtain ⟨e8, b8⟩ := dText_some b7 h8
  refine ⟨?_, b8, p3⟩
  simp only [encCfg, List.append_assoc]
  rw [e8, e7, e6, e5, e4, e3, e2, e1]
theorem dScr_some {s : ScrV} {l r : List Int} (hl : BL l) (h : dScr l = some (s, r)) : encScr s ++ r = l ∧ BL r ∧ ScrTy s ∧ (s.progs.length : Int) = s.cfg.clients := by
  unfold dScr at h
  simp only [Option.bind_eq_some_iff, Option.map_eq_some_iff] at h
  obtain ⟨⟨c, l1⟩, h1, ⟨ps, l2⟩, h2, ⟨ks, l3⟩, h3, h4⟩ := h
  simp only [Prod.mk.injEq] at h4
  obtain ⟨rfl, rfl⟩ := h4
  obtain ⟨e1, b1, c0⟩ := dCfg_some hl h1
  obtain ⟨e2, b2, n2, t2⟩ := dProgs_some _ b1 h2
  obtain ⟨e3, b3⟩ := dPicks_some b2 h3
  refine ⟨?_, b3, t2, by show ((ps.length : Nat) : Int) = c.clients; rw [n2]; simp only; omega⟩
  have : encScr ⟨c, ps, ks⟩ ++ l3 = encCfg c ++ (encProgs ps ++ (num ks.length 2 ++ encPicks ks ++ l3)) := by simp [encScr]
  rw [this, e3, e2, e1]
/-- What decoding hands back: the one valid script with that encoding. -/
theorem dec_iff (l : List Int) (hl : BL l) (s : ScrV) : (dScr l = some (s, []) ∧ chkScr s = 0) ↔ (ScrOk s ∧ ScrTy s ∧ encScr s = l) := by
  constructor
  · rintro ⟨h1, h2⟩
    obtain ⟨e, _, t, _⟩ := dScr_some hl h1
    exact ⟨(chk_iff s).1 h2, t, by simpa using e⟩
  · rintro ⟨h1, h2, rfl⟩
    have := dScr_enc s [] h1 h2
    rw [List.append_nil] at this
    exact ⟨this, (chk_iff s).2 h1⟩
theorem enc_prefix {s s' : ScrV} {r : List Int} (h : ScrOk s) (ht : ScrTy s) (h' : ScrOk s') (ht' : ScrTy s') (e : encScr s ++ r = encScr s') : s = s' ∧ r = [] := by
  have h1 := dScr_enc s r h ht
  have h2 := dScr_enc s' [] h' ht'
  rw [List.append_nil] at h2
  rw [e, h2] at h1
  injection h1 with h1
  injection h1 with h3 h4
  exact ⟨h3.symm, h4.symm⟩
end Go.Proofs.YtbjadgggpkbjmaaGreat
namespace Go.Proofs.YtbjadgggpkbjmaaGreat
open Go.RowKit

theorem contains_take_succ (xs : List Int) (k : Nat) (f : Int) (hk : k < xs.length) (h : (xs.take k).contains f = false) (he : f ≠ xs.getD k 0) : (xs.take (k + 1)).contains f = false := by
  rw [List.take_succ_eq_append_getElem hk]
  simp [List.getD_eq_getElem?_getD, hk] at he
  have h' : f ∉ xs.take k := fun hm => by rw [List.contains_iff_mem.2 hm] at h; cases h
  rw [Bool.eq_false_iff]
  intro hc
  rcases List.mem_append.1 (List.contains_iff_mem.1 hc) with hm | hm
  · exact h' hm
  · exact he (by simpa using hm)
theorem contains_at (xs : List Int) (k : Nat) (hk : k < xs.length) : xs.contains (xs.getD k 0) = true := by
  simp [List.getD_eq_getElem?_getD, hk]
set_option maxHeartbeats 400000 in
theorem indexFn (A : Option Addr) (c : Nat) (f : Int) (xs : List Int) (w : World) (hx : U8s w A xs) (hl : xs.length ≤ 16) :
    Calls Tryz.prog 44 #[.slice A xs.length c, .int .u8 f] w (fun e w' => ∃ i : Int, e = .returned (.int .i64 i) ∧ decide (0 ≤ i) = xs.contains f ∧ ∃ k, w' = w.drewN k) := by
  have HX := Lib.hid hx
  clear hx
  generalize hn : xs.length = n at *
  have HN := Lib.hid hn
  clear hn
  go_enter Tryz.func44, Tryz.ntmps44
  go_wp2
  go_loopw [8] (fun i wr => ∃ k : Nat, k ≤ n ∧ i = .int .i64 k ∧ Hid ((xs.take k).contains f = false) ∧ Hid (∃ m, wr = w.drewN m)) (fun i _ => n - (intOf i).toNat)
  case atStart => exact ⟨0, Nat.zero_le _, rfl, rfl, 0, rfl⟩
  case round =>
    obtain ⟨k, hk, rfl, HT, HW⟩ := hrel
    have hwr : ∀ p, wr.cell? p = w.cell? p := by obtain ⟨m, rfl⟩ := HW.out; intro p; rfl
    by_cases hlt : k < n
    · obtain ⟨b, o, rfl, _, hc⟩ := HX.out (by rw [HN.out]; omega)
      have hy : wr.cell? ⟨b, o + k, none⟩ = some (.int .u8 (xs.getD k 0)) := by rw [hwr]; exact hc k (by rw [HN.out]; exact hlt)
      clear hwr hc
      have hki : (k : Int) < (n : Int) := by omega
      have HS := Lib.hid (contains_take_succ xs k f (by rw [HN.out]; exact hlt) HT.out)
      have HA := Lib.hid (contains_at xs k (by rw [HN.out]; exact hlt))
      generalize hxv : xs.getD k 0 = xv at *
      clear hxv
      by_cases hxy : f = xv
      · subst hxy
        have hbe : (f == f) = true := by simp
        go_wp2
        all_goals (try (go_quiet (fail); go_wp2))
        go_ret
        refine ⟨k, rfl, ?_, ?_⟩
        · rw [HA.out]; simp
        · obtain ⟨m, rfl⟩ := HW.out
          first | exact ⟨_, World.drewN_drewN _ _ _⟩ | exact ⟨m, rfl⟩
      · have hbe : (f == xv) = false := by simpa using hxy
        have HS2 := Lib.hid (HS.out hxy)
        clear HS
        go_wp2
        all_goals (try (go_quiet (fail); go_wp2))
        go_roundw
        case rel => exact ⟨k + 1, by omega, by go_num, HS2.out, by obtain ⟨m, rfl⟩ := HW.out; first | exact ⟨_, World.drewN_drewN _ _ _⟩ | exact ⟨m, rfl⟩⟩
        case measure => simp [intOf]; omega
    · obtain rfl : k = n := by omega
      clear hwr
      go_wp2
      go_ret
      have := HT.out
      rw [List.take_of_length_le (by rw [HN.out]; omega)] at this
      exact ⟨-1, rfl, by rw [this]; rfl, HW.out⟩
theorem containsFn (A : Option Addr) (c : Nat) (f : Int) (xs : List Int) (w : World) (hx : U8s w A xs) (hl : xs.length ≤ 16) :
    Calls Tryz.prog 30 #[.slice A xs.length c, .int .u8 f] w (fun e w' => e = .returned (.bool (xs.contains f)) ∧ ∃ k, w' = w.drewN k) := by
  have HI := Lib.hid (indexFn A c f xs w hx hl)
  clear hx hl
  generalize xs.contains f = q at *
  generalize xs.length = n at *
  go_enter Tryz.func30, Tryz.ntmps30
  go_wp2_with fail
  refine HI.out.mono ?_
  rintro e w' ⟨i, rfl, hi, m, rfl⟩
  cases q
  · have h0 : ¬ 0 ≤ i := by simpa using hi
    go_wp2
    go_ret
    exact ⟨rfl, m, rfl⟩
  · have h0 : 0 ≤ i := by simpa using hi
    go_wp2
    go_ret
    exact ⟨rfl, m, rfl⟩
theorem U8s.drewN {w : World} {A : Option Addr} {xs : List Int} (h : U8s w A xs) (k : Nat) : U8s (w.drewN k) A xs := h
theorem hasFn (b c : Nat) (A : Option Addr) (f : Int) (z t : Bool) (xs : List Int) (w : World) (hc : w.cell? ⟨b, 0, none⟩ = some (.slice A xs.length c)) (hx : U8s w A xs) (hl : xs.length ≤ 16) :
    Calls Tryz.prog 29 #[.int .u8 f, .bool z, .bool t, .pointer (some ⟨b, 0, none⟩)] w (fun e w' => e = .returned (.bool (if xs.contains f then t else z)) ∧ ∃ k, w' = w.drewN k) := by
  have HI := Lib.hid (containsFn A c f xs w hx hl)
  clear hx hl
  generalize xs.contains f = q at *
  generalize xs.length = n at *
  go_enter Tryz.func29, Tryz.ntmps29
  go_wp2_with fail
  refine HI.out.mono ?_
  rintro e w' ⟨rfl, m, rfl⟩
  cases q
  · go_wp2
    go_ret
    exact ⟨rfl, m, rfl⟩
  · go_wp2
    go_ret
    exact ⟨rfl, m, rfl⟩
/-- How many bytes a field has. -/
def szF (o : OpV) (f : Int) : Int := if f = 0 then 1 else if f = 1 then 2 else if f = 2 then 2 else if f = 3 then 4 else if f = 4 then 1 else 2 + o.text.size
theorem szF_len (o : OpV) (f : Int) : szF o f = (encF o f).length := by
  unfold szF encF
  (repeat' split) <;> simp [num_len, encText, bytesL_len]
theorem sizeFn (o : OpV) (f : Int) (w : World) (hf : in5 f) (ht : o.text.size ≤ 9223372036854775000) :
    Calls Tryz.prog 31 #[opVal o, .int .u8 f] w (fun e w' => e = .returned (.int .i64 (szF o f)) ∧ Below w.heap.size w w' ∧ w.grownBy w' none) := by
  obtain ⟨x0, x1, x2, x3, x4, x5, x6⟩ := o
  dsimp only at ht
  have HB := Lib.hid (fun ob : Obj => (Below.refl w.heap.size w).alloc (Nat.le_refl _) ob)
  have HG := Lib.hid (fun ob : Obj => grown_alloc (World.grownBy.refl w none) ob)
  rcases hf with rfl | rfl | rfl | rfl | rfl | rfl
  all_goals
    go_enter Tryz.func31, Tryz.ntmps31
    go_wp2
    go_ret
    exact ⟨rfl, HB.out _, HG.out _⟩
end Go.Proofs.YtbjadgggpkbjmaaGreat
namespace Go.Proofs.YtbjadgggpkbjmaaGreat
open Go.RowKit

theorem u8s_keep {W W' : World} {A : Option Addr} {fs : List Int} (h : U8s W A fs) (hk : ∀ q, ElemT W q 60 → W'.heap[q]? = W.heap[q]?) : U8s W' A fs := fun hp => by
  obtain ⟨b, o, e, ht, hc⟩ := h hp
  exact ⟨b, o, e, ht.keep (hk b ht), fun j hj => (World.cell?_of_block (a := ⟨b, o + j, none⟩) (hk b ht)).trans (hc j hj)⟩
/-- The world in plain behind its first three statements: the operation's box, the fields, the variable that the closure captures. -/
structure PlSt (w W : World) (ub : Nat) (A : Option Addr) (c : Nat) (o : OpV) : Prop where
  u8 : U8s W A (fieldsOf o.kind)
  used : W.cell? ⟨ub, 0, none⟩ = some (.slice A (fieldsOf o.kind).length c)
  op : OpAt W w.heap.size 0 o
  bel : Below w.heap.size w W
theorem opAt_new (w : World) (x0 x1 x2 x3 x4 x5 : Int) (x6 : ByteArray) : OpAt (w.alloc (.cells #[.int .u8 x0, .int .i64 x1, .int .i64 x2, .int .i64 x3, .int .u32 x4, .int .u8 x5, .string x6] 40)) w.heap.size 0 ⟨x0, x1, x2, x3, x4, x5, x6⟩ := by
  have g : ∀ i u, (#[.int .u8 x0, .int .i64 x1, .int .i64 x2, .int .i64 x3, .int .u32 x4, .int .u8 x5, .string x6] : Array Value)[i]? = some u → (w.alloc (.cells #[.int .u8 x0, .int .i64 x1, .int .i64 x2, .int .i64 x3, .int .u32 x4, .int .u8 x5, .string x6] 40)).cell? ⟨w.heap.size, i, none⟩ = some u := fun i u hu => by
    rw [World.cell?_alloc_at _ _ _ _ rfl]; exact hu
  exact ⟨g 0 _ rfl, by rw [Nat.zero_add]; exact g 1 _ rfl, by rw [Nat.zero_add]; exact g 2 _ rfl, by rw [Nat.zero_add]; exact g 3 _ rfl, by rw [Nat.zero_add]; exact g 4 _ rfl, by rw [Nat.zero_add]; exact g 5 _ rfl, by rw [Nat.zero_add]; exact g 6 _ rfl⟩
theorem plst_start {w w1 : World} {A : Option Addr} {c : Nat} (x0 x1 x2 x3 x4 x5 : Int) (x6 : ByteArray) (hu : U8s w1 A (fieldsOf x0))
    (hg : (w.alloc (.cells #[.int .u8 x0, .int .i64 x1, .int .i64 x2, .int .i64 x3, .int .u32 x4, .int .u8 x5, .string x6] 40)).grownBy w1 none) :
    PlSt w (w1.alloc (.cells #[.slice A (fieldsOf x0).length c] 58)) w1.heap.size A c ⟨x0, x1, x2, x3, x4, x5, x6⟩ := by
  have hs := hg.size
  simp only [World.size_alloc] at hs
  refine ⟨u8s_keep hu fun q hq => Below.heap_alloc _ _ _ hq.lt, ?_, ?_, ?_⟩
  · rw [World.cell?_alloc_at _ _ _ _ rfl]; rfl
  · refine (opAt_new w x0 x1 x2 x3 x4 x5 x6).keep ?_
    rw [Below.heap_alloc _ _ _ (by omega)]
    exact hg.block _ (by simp) (by simp)
  · exact ⟨hg.os, hg.tape, hg.output, by simp; omega, fun k hk => by
      rw [Below.heap_alloc _ _ _ (by omega), hg.block k (by simp; omega) (by simp), Below.heap_alloc _ _ _ hk]⟩
theorem PlSt.drewN {w W : World} {ub : Nat} {A : Option Addr} {c : Nat} {o : OpV} (h : PlSt w W ub A c o) (k : Nat) : PlSt w (W.drewN k) ub A c o :=
  ⟨h.u8, h.used, h.op.keep rfl, below_drewN h.bel k⟩

theorem hasSt {w W : World} {ub : Nat} {A : Option Addr} {c : Nat} {o : OpV} (h : PlSt w W ub A c o) (f : Int) (z t : Bool) :
    Calls Tryz.prog 29 #[.int .u8 f, .bool z, .bool t, .pointer (some ⟨ub, 0, none⟩)] W (fun e w' => ∃ r, e = .returned (.bool r) ∧ r = (if uses o.kind f then t else z) ∧ PlSt w w' ub A c o) := by
  refine (hasFn ub c A f z t (fieldsOf o.kind) W h.used h.u8 (by have := (fieldsOf_bd o.kind).1; omega)).mono ?_
  rintro e w' ⟨rfl, m, rfl⟩
  exact ⟨_, rfl, rfl, h.drewN m⟩
theorem PlSt.bel_of {w W : World} {ub : Nat} {A : Option Addr} {c : Nat} {o : OpV} (h : Hid (PlSt w W ub A c o)) : Below w.heap.size w W := h.out.bel
theorem PlSt.cells {w W : World} {ub : Nat} {A : Option Addr} {c : Nat} {x0 x1 x2 x3 x4 x5 : Int} {x6 : ByteArray} (h : PlSt w W ub A c ⟨x0, x1, x2, x3, x4, x5, x6⟩) :
    W.cell? ⟨w.heap.size, 0, none⟩ = some (.int .u8 x0) ∧ W.cell? ⟨w.heap.size, 1, none⟩ = some (.int .i64 x1) ∧ W.cell? ⟨w.heap.size, 2, none⟩ = some (.int .i64 x2) ∧ W.cell? ⟨w.heap.size, 3, none⟩ = some (.int .i64 x3) ∧
      W.cell? ⟨w.heap.size, 4, none⟩ = some (.int .u32 x4) ∧ W.cell? ⟨w.heap.size, 5, none⟩ = some (.int .u8 x5) ∧ W.cell? ⟨w.heap.size, 6, none⟩ = some (.string x6) := by
  obtain ⟨m0, m1, m2, m3, m4, m5, m6⟩ := h.op
  simp only [Nat.zero_add] at m1 m2 m3 m4 m5 m6
  exact ⟨m0, m1, m2, m3, m4, m5, m6⟩
theorem yes_A {u r : Bool} {x : Int} (h : u = false → x = 0) (hr : r = if u = true then true else x == 0) : r = true := by
  subst hr; cases u
  · simp [h rfl]
  · rfl
theorem no_A {u r : Bool} {x M : Int} (h1 : u = true → ¬ (0 ≤ x ∧ x ≤ M)) (h2 : u = false → ¬ x = 0) (h0 : 0 ≤ x) (hr : r = if u = true then decide (x ≤ M) else x == 0) : r = false := by
  subst hr; cases u
  · simpa using h2 rfl
  · have := h1 rfl
    simp; omega
theorem no_B {u r : Bool} {x : Int} (h2 : u = false → ¬ x = 0) (hr : r = if u = true then false else x == 0) : r = false := by
  subst hr; cases u
  · simpa using h2 rfl
  · rfl
theorem no_C {u r : Bool} {x : Int} (h1 : u = false) (h2 : ¬ x = 0) (hr : r = if u = true then true else x == 0) : r = false := by
  subst hr h1
  simpa using h2
theorem yes_T {u r : Bool} {x : ByteArray} (h : u = false → x.size = 0) (hr : r = if u = true then true else x.toList.isEmpty) : r = true := by
  subst hr; rw [toList_empty]; cases u
  · simp [h rfl]
  · rfl
theorem no_T {u r : Bool} {x : ByteArray} (h1 : u = true → ¬ x.size ≤ 256) (h2 : u = false → ¬ x.size = 0) (hr : r = if u = true then decide ((x.size : Int) ≤ 256) else x.toList.isEmpty) : r = false := by
  subst hr; rw [toList_empty]; cases u
  · simpa using h2 rfl
  · have := h1 rfl
    simp; omega
set_option maxHeartbeats 0 in
theorem plain_yes (x0 x1 x2 x3 x4 x5 : Int) (x6 : ByteArray) (w : World) (hk1 : 1 ≤ x0) (hk2 : x0 ≤ 16) (g0 : 0 ≤ x1 ∧ x1 ≤ 255) (z0 : uses x0 0 = false → x1 = 0) (g1 : 0 ≤ x2 ∧ x2 ≤ 65535) (z1 : uses x0 1 = false → x2 = 0) (g2 : 0 ≤ x3 ∧ x3 ≤ 65535) (z2 : uses x0 2 = false → x3 = 0) (z3 : uses x0 3 = false → x4 = 0) (z4 : uses x0 4 = false → x5 = 0) (g5 : x6.size ≤ 256) (z5 : uses x0 5 = false → x6.size = 0) :
    Calls Tryz.prog 17 #[opVal ⟨x0, x1, x2, x3, x4, x5, x6⟩] w (BoolBelow true w) := by
  have HF := Lib.hid (fun W : World => fieldsFn x0 W hk1 hk2)
  have a0 := g0.1
  have b0 := g0.2
  have a1 := g1.1
  have b1 := g1.2
  have a2 := g2.1
  have b2 := g2.2
  have a5 : (x6.size : Int) ≤ 256 := by omega
  have Z0 := Lib.hid z0
  have Z1 := Lib.hid z1
  have Z2 := Lib.hid z2
  have Z3 := Lib.hid z3
  have Z4 := Lib.hid z4
  have Z5 := Lib.hid z5
  clear z0 z1 z2 z3 z4 z5 g0 g1 g2 g5
  go_enter Tryz.func17, Tryz.ntmps17
  go_wp2_with fail
  refine (HF.out _).mono ?_
  rintro e w1 ⟨A, c, rfl, hu, hg⟩
  have HS := Lib.hid (plst_start (c := c) x0 x1 x2 x3 x4 x5 x6 hu hg)
  go_upto_region 4 with fail
  clear hu hg HF
  generalize w1.alloc (Obj.cells #[Value.slice A (fieldsOf x0).length c] 58) = W at *
  generalize w1.heap.size = ub at *
  generalize (fieldsOf x0).length = n at *
  obtain ⟨m0, m1, m2, m3, m4, m5, m6⟩ := HS.out.cells
  go_upto_region 5 with fail
  all_goals simp only [List.append_eq, List.cons_append, List.nil_append]
  all_goals go_wp2_with (go_at_call 29; refine (hasSt (Hid.out (by assumption)) _ _ _).mono ?_; rintro e w' ⟨r, rfl, hr, hs⟩; dsimp only at hr; (first | (obtain rfl := yes_A Z0.out hr) | (obtain rfl := yes_A Z1.out hr) | (obtain rfl := yes_A Z2.out hr) | (obtain rfl := yes_A Z3.out hr) | (obtain rfl := yes_A Z4.out hr) | (obtain rfl := yes_T Z5.out hr)); clear hr; (have HS2 := Lib.hid hs); clear hs; obtain ⟨m0, m1, m2, m3, m4, m5, m6⟩ := HS2.out.cells)
  all_goals
    go_ret
    exact ⟨rfl, PlSt.bel_of (ub := ub) (A := A) (c := c) (o := ⟨x0, x1, x2, x3, x4, x5, x6⟩) (by assumption)⟩
set_option maxHeartbeats 0 in
theorem plain_no0 (x0 x1 x2 x3 x4 x5 : Int) (x6 : ByteArray) (w : World) (hk1 : 1 ≤ x0) (hk2 : x0 ≤ 16) (k1 : uses x0 0 = true → ¬ (0 ≤ x1 ∧ x1 ≤ 255)) (k2 : uses x0 0 = false → ¬ x1 = 0) :
    Calls Tryz.prog 17 #[opVal ⟨x0, x1, x2, x3, x4, x5, x6⟩] w (BoolBelow false w) := by
  have HF := Lib.hid (fun W : World => fieldsFn x0 W hk1 hk2)
  have K1 := Lib.hid k1
  have K2 := Lib.hid k2
  clear k1 k2
  go_enter Tryz.func17, Tryz.ntmps17
  go_wp2_with fail
  refine (HF.out _).mono ?_
  rintro e w1 ⟨A, c, rfl, hu, hg⟩
  have HS := Lib.hid (plst_start (c := c) x0 x1 x2 x3 x4 x5 x6 hu hg)
  go_upto_region 4 with fail
  clear hu hg HF
  generalize w1.alloc (Obj.cells #[Value.slice A (fieldsOf x0).length c] 58) = W at *
  generalize w1.heap.size = ub at *
  generalize (fieldsOf x0).length = n at *
  obtain ⟨m0, m1, m2, m3, m4, m5, m6⟩ := HS.out.cells
  go_upto_region 5 with fail
  all_goals simp only [List.append_eq, List.cons_append, List.nil_append]
  all_goals go_wp2_with (go_at_call 29; refine (hasSt (Hid.out (by assumption)) _ _ _).mono ?_; rintro e w' ⟨r, rfl, hr, hs⟩; dsimp only at hr; (first | (obtain rfl := no_A K1.out K2.out (by assumption) hr) | (obtain rfl := no_B K2.out hr)); clear hr; (have HS2 := Lib.hid hs); clear hs; obtain ⟨m0, m1, m2, m3, m4, m5, m6⟩ := HS2.out.cells)
  all_goals
    go_ret
    exact ⟨rfl, PlSt.bel_of (ub := ub) (A := A) (c := c) (o := ⟨x0, x1, x2, x3, x4, x5, x6⟩) (by assumption)⟩
set_option maxHeartbeats 0 in
theorem plain_no1 (x0 x1 x2 x3 x4 x5 : Int) (x6 : ByteArray) (w : World) (hk1 : 1 ≤ x0) (hk2 : x0 ≤ 16) (g0 : 0 ≤ x1 ∧ x1 ≤ 255) (z0 : uses x0 0 = false → x1 = 0) (k1 : uses x0 1 = true → ¬ (0 ≤ x2 ∧ x2 ≤ 65535)) (k2 : uses x0 1 = false → ¬ x2 = 0) :
    Calls Tryz.prog 17 #[opVal ⟨x0, x1, x2, x3, x4, x5, x6⟩] w (BoolBelow false w) := by
  have HF := Lib.hid (fun W : World => fieldsFn x0 W hk1 hk2)
  have a0 := g0.1
  have b0 := g0.2
  have Z0 := Lib.hid z0
  have K1 := Lib.hid k1
  have K2 := Lib.hid k2
  clear z0 g0 k1 k2
  go_enter Tryz.func17, Tryz.ntmps17
  go_wp2_with fail
  refine (HF.out _).mono ?_
  rintro e w1 ⟨A, c, rfl, hu, hg⟩
  have HS := Lib.hid (plst_start (c := c) x0 x1 x2 x3 x4 x5 x6 hu hg)
  go_upto_region 4 with fail
  clear hu hg HF
  generalize w1.alloc (Obj.cells #[Value.slice A (fieldsOf x0).length c] 58) = W at *
  generalize w1.heap.size = ub at *
  generalize (fieldsOf x0).length = n at *
  obtain ⟨m0, m1, m2, m3, m4, m5, m6⟩ := HS.out.cells
  go_upto_region 5 with fail
  all_goals simp only [List.append_eq, List.cons_append, List.nil_append]
  all_goals go_wp2_with (go_at_call 29; refine (hasSt (Hid.out (by assumption)) _ _ _).mono ?_; rintro e w' ⟨r, rfl, hr, hs⟩; dsimp only at hr; (first | (obtain rfl := yes_A Z0.out hr) | (obtain rfl := no_A K1.out K2.out (by assumption) hr) | (obtain rfl := no_B K2.out hr)); clear hr; (have HS2 := Lib.hid hs); clear hs; obtain ⟨m0, m1, m2, m3, m4, m5, m6⟩ := HS2.out.cells)
  all_goals
    go_ret
    exact ⟨rfl, PlSt.bel_of (ub := ub) (A := A) (c := c) (o := ⟨x0, x1, x2, x3, x4, x5, x6⟩) (by assumption)⟩
set_option maxHeartbeats 0 in
theorem plain_no2 (x0 x1 x2 x3 x4 x5 : Int) (x6 : ByteArray) (w : World) (hk1 : 1 ≤ x0) (hk2 : x0 ≤ 16) (g0 : 0 ≤ x1 ∧ x1 ≤ 255) (z0 : uses x0 0 = false → x1 = 0) (g1 : 0 ≤ x2 ∧ x2 ≤ 65535) (z1 : uses x0 1 = false → x2 = 0) (k1 : uses x0 2 = true → ¬ (0 ≤ x3 ∧ x3 ≤ 65535)) (k2 : uses x0 2 = false → ¬ x3 = 0) :
    Calls Tryz.prog 17 #[opVal ⟨x0, x1, x2, x3, x4, x5, x6⟩] w (BoolBelow false w) := by
  have HF := Lib.hid (fun W : World => fieldsFn x0 W hk1 hk2)
  have a0 := g0.1
  have b0 := g0.2
  have a1 := g1.1
  have b1 := g1.2
  have Z0 := Lib.hid z0
  have Z1 := Lib.hid z1
  have K1 := Lib.hid k1
  have K2 := Lib.hid k2
  clear z0 z1 g0 g1 k1 k2
  go_enter Tryz.func17, Tryz.ntmps17
  go_wp2_with fail
  refine (HF.out _).mono ?_
  rintro e w1 ⟨A, c, rfl, hu, hg⟩
  have HS := Lib.hid (plst_start (c := c) x0 x1 x2 x3 x4 x5 x6 hu hg)
  go_upto_region 4 with fail
  clear hu hg HF
  generalize w1.alloc (Obj.cells #[Value.slice A (fieldsOf x0).length c] 58) = W at *
  generalize w1.heap.size = ub at *
  generalize (fieldsOf x0).length = n at *
  obtain ⟨m0, m1, m2, m3, m4, m5, m6⟩ := HS.out.cells
  go_upto_region 5 with fail
  all_goals simp only [List.append_eq, List.cons_append, List.nil_append]
  all_goals go_wp2_with (go_at_call 29; refine (hasSt (Hid.out (by assumption)) _ _ _).mono ?_; rintro e w' ⟨r, rfl, hr, hs⟩; dsimp only at hr; (first | (obtain rfl := yes_A Z0.out hr) | (obtain rfl := yes_A Z1.out hr) | (obtain rfl := no_A K1.out K2.out (by assumption) hr) | (obtain rfl := no_B K2.out hr)); clear hr; (have HS2 := Lib.hid hs); clear hs; obtain ⟨m0, m1, m2, m3, m4, m5, m6⟩ := HS2.out.cells)
  all_goals
    go_ret
    exact ⟨rfl, PlSt.bel_of (ub := ub) (A := A) (c := c) (o := ⟨x0, x1, x2, x3, x4, x5, x6⟩) (by assumption)⟩
set_option maxHeartbeats 0 in
theorem plain_no3 (x0 x1 x2 x3 x4 x5 : Int) (x6 : ByteArray) (w : World) (hk1 : 1 ≤ x0) (hk2 : x0 ≤ 16) (g0 : 0 ≤ x1 ∧ x1 ≤ 255) (z0 : uses x0 0 = false → x1 = 0) (g1 : 0 ≤ x2 ∧ x2 ≤ 65535) (z1 : uses x0 1 = false → x2 = 0) (g2 : 0 ≤ x3 ∧ x3 ≤ 65535) (z2 : uses x0 2 = false → x3 = 0) (k1 : uses x0 3 = false) (k2 : ¬ x4 = 0) :
    Calls Tryz.prog 17 #[opVal ⟨x0, x1, x2, x3, x4, x5, x6⟩] w (BoolBelow false w) := by
  have HF := Lib.hid (fun W : World => fieldsFn x0 W hk1 hk2)
  have a0 := g0.1
  have b0 := g0.2
  have a1 := g1.1
  have b1 := g1.2
  have a2 := g2.1
  have b2 := g2.2
  have Z0 := Lib.hid z0
  have Z1 := Lib.hid z1
  have Z2 := Lib.hid z2
  have K1 := Lib.hid k1
  have K2 := Lib.hid k2
  clear z0 z1 z2 g0 g1 g2 k1 k2
  go_enter Tryz.func17, Tryz.ntmps17
  go_wp2_with fail
  refine (HF.out _).mono ?_
  rintro e w1 ⟨A, c, rfl, hu, hg⟩
  have HS := Lib.hid (plst_start (c := c) x0 x1 x2 x3 x4 x5 x6 hu hg)
  go_upto_region 4 with fail
  clear hu hg HF
  generalize w1.alloc (Obj.cells #[Value.slice A (fieldsOf x0).length c] 58) = W at *
  generalize w1.heap.size = ub at *
  generalize (fieldsOf x0).length = n at *
  obtain ⟨m0, m1, m2, m3, m4, m5, m6⟩ := HS.out.cells
  go_upto_region 5 with fail
  all_goals simp only [List.append_eq, List.cons_append, List.nil_append]
  all_goals go_wp2_with (go_at_call 29; refine (hasSt (Hid.out (by assumption)) _ _ _).mono ?_; rintro e w' ⟨r, rfl, hr, hs⟩; dsimp only at hr; (first | (obtain rfl := yes_A Z0.out hr) | (obtain rfl := yes_A Z1.out hr) | (obtain rfl := yes_A Z2.out hr) | (obtain rfl := no_C K1.out K2.out hr)); clear hr; (have HS2 := Lib.hid hs); clear hs; obtain ⟨m0, m1, m2, m3, m4, m5, m6⟩ := HS2.out.cells)
  all_goals
    go_ret
    exact ⟨rfl, PlSt.bel_of (ub := ub) (A := A) (c := c) (o := ⟨x0, x1, x2, x3, x4, x5, x6⟩) (by assumption)⟩
set_option maxHeartbeats 0 in
theorem plain_no4 (x0 x1 x2 x3 x4 x5 : Int) (x6 : ByteArray) (w : World) (hk1 : 1 ≤ x0) (hk2 : x0 ≤ 16) (g0 : 0 ≤ x1 ∧ x1 ≤ 255) (z0 : uses x0 0 = false → x1 = 0) (g1 : 0 ≤ x2 ∧ x2 ≤ 65535) (z1 : uses x0 1 = false → x2 = 0) (g2 : 0 ≤ x3 ∧ x3 ≤ 65535) (z2 : uses x0 2 = false → x3 = 0) (z3 : uses x0 3 = false → x4 = 0) (k1 : uses x0 4 = false) (k2 : ¬ x5 = 0) :
    Calls Tryz.prog 17 #[opVal ⟨x0, x1, x2, x3, x4, x5, x6⟩] w (BoolBelow false w) := by
  have HF := Lib.hid (fun W : World => fieldsFn x0 W hk1 hk2)
  have a0 := g0.1
  have b0 := g0.2
  have a1 := g1.1
  have b1 := g1.2
  have a2 := g2.1
  have b2 := g2.2
  have Z0 := Lib.hid z0
  have Z1 := Lib.hid z1
  have Z2 := Lib.hid z2
  have Z3 := Lib.hid z3
  have K1 := Lib.hid k1
  have K2 := Lib.hid k2
  clear z0 z1 z2 z3 g0 g1 g2 k1 k2
  go_enter Tryz.func17, Tryz.ntmps17
  go_wp2_with fail
  refine (HF.out _).mono ?_
  rintro e w1 ⟨A, c, rfl, hu, hg⟩
  have HS := Lib.hid (plst_start (c := c) x0 x1 x2 x3 x4 x5 x6 hu hg)
  go_upto_region 4 with fail
  clear hu hg HF
  generalize w1.alloc (Obj.cells #[Value.slice A (fieldsOf x0).length c] 58) = W at *
  generalize w1.heap.size = ub at *
  generalize (fieldsOf x0).length = n at *
  obtain ⟨m0, m1, m2, m3, m4, m5, m6⟩ := HS.out.cells
  go_upto_region 5 with fail
  all_goals simp only [List.append_eq, List.cons_append, List.nil_append]
  all_goals go_wp2_with (go_at_call 29; refine (hasSt (Hid.out (by assumption)) _ _ _).mono ?_; rintro e w' ⟨r, rfl, hr, hs⟩; dsimp only at hr; (first | (obtain rfl := yes_A Z0.out hr) | (obtain rfl := yes_A Z1.out hr) | (obtain rfl := yes_A Z2.out hr) | (obtain rfl := yes_A Z3.out hr) | (obtain rfl := no_C K1.out K2.out hr)); clear hr; (have HS2 := Lib.hid hs); clear hs; obtain ⟨m0, m1, m2, m3, m4, m5, m6⟩ := HS2.out.cells)
  all_goals
    go_ret
    exact ⟨rfl, PlSt.bel_of (ub := ub) (A := A) (c := c) (o := ⟨x0, x1, x2, x3, x4, x5, x6⟩) (by assumption)⟩
set_option maxHeartbeats 0 in
theorem plain_no5 (x0 x1 x2 x3 x4 x5 : Int) (x6 : ByteArray) (w : World) (hk1 : 1 ≤ x0) (hk2 : x0 ≤ 16) (g0 : 0 ≤ x1 ∧ x1 ≤ 255) (z0 : uses x0 0 = false → x1 = 0) (g1 : 0 ≤ x2 ∧ x2 ≤ 65535) (z1 : uses x0 1 = false → x2 = 0) (g2 : 0 ≤ x3 ∧ x3 ≤ 65535) (z2 : uses x0 2 = false → x3 = 0) (z3 : uses x0 3 = false → x4 = 0) (z4 : uses x0 4 = false → x5 = 0) (k1 : uses x0 5 = true → ¬ (x6.size ≤ 256)) (k2 : uses x0 5 = false → ¬ x6.size = 0) :
    Calls Tryz.prog 17 #[opVal ⟨x0, x1, x2, x3, x4, x5, x6⟩] w (BoolBelow false w) := by
  have HF := Lib.hid (fun W : World => fieldsFn x0 W hk1 hk2)
  have a0 := g0.1
  have b0 := g0.2
  have a1 := g1.1
  have b1 := g1.2
  have a2 := g2.1
  have b2 := g2.2
  have Z0 := Lib.hid z0
  have Z1 := Lib.hid z1
  have Z2 := Lib.hid z2
  have Z3 := Lib.hid z3
  have Z4 := Lib.hid z4
  have K1 := Lib.hid k1
  have K2 := Lib.hid k2
  clear z0 z1 z2 z3 z4 g0 g1 g2 k1 k2
  go_enter Tryz.func17, Tryz.ntmps17
  go_wp2_with fail
  refine (HF.out _).mono ?_
  rintro e w1 ⟨A, c, rfl, hu, hg⟩
  have HS := Lib.hid (plst_start (c := c) x0 x1 x2 x3 x4 x5 x6 hu hg)
  go_upto_region 4 with fail
  clear hu hg HF
  generalize w1.alloc (Obj.cells #[Value.slice A (fieldsOf x0).length c] 58) = W at *
  generalize w1.heap.size = ub at *
  generalize (fieldsOf x0).length = n at *
  obtain ⟨m0, m1, m2, m3, m4, m5, m6⟩ := HS.out.cells
  go_upto_region 5 with fail
  all_goals simp only [List.append_eq, List.cons_append, List.nil_append]
  all_goals go_wp2_with (go_at_call 29; refine (hasSt (Hid.out (by assumption)) _ _ _).mono ?_; rintro e w' ⟨r, rfl, hr, hs⟩; dsimp only at hr; (first | (obtain rfl := yes_A Z0.out hr) | (obtain rfl := yes_A Z1.out hr) | (obtain rfl := yes_A Z2.out hr) | (obtain rfl := yes_A Z3.out hr) | (obtain rfl := yes_A Z4.out hr) | (obtain rfl := no_T K1.out K2.out hr)); clear hr; (have HS2 := Lib.hid hs); clear hs; obtain ⟨m0, m1, m2, m3, m4, m5, m6⟩ := HS2.out.cells)
  all_goals
    go_ret
    exact ⟨rfl, PlSt.bel_of (ub := ub) (A := A) (c := c) (o := ⟨x0, x1, x2, x3, x4, x5, x6⟩) (by assumption)⟩
end Go.Proofs.YtbjadgggpkbjmaaGreat
