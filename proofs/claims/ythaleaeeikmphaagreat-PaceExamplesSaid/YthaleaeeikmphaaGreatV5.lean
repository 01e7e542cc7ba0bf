/- The table of pace.bounds: what stands at each kind. -/
import Derived.Test.YthaleaeeikmphaaGreatXu
namespace Go.Proofs.YthaleaeeikmphaaGreat
open Go.Ab Go.RowKit
/-- A call without arguments, run by the evaluator: the result and the memory are related to real ones. -/
theorem closed_k {P : Program} {xt : XTab} (hty : typesOk P = true) (hxt : XOk P xt) (hm : P.follows .mixedOrders = true) {d : Nat} {f : FuncId} {k : Value → AHeap → Option Bool}
    (hr : (envK P xt d).call f [] emptyH k = some true) (w : World) :
    Calls P f #[] w (fun e w' => ∃ v h' u φ, k v h' = some true ∧ e = .returned u ∧ VR φ v u ∧ HR w w.heap.size φ h' w') := by
  obtain ⟨v, h', h1, h2⟩ := (envK_ref d).call _ _ _ _ _ hr
  have hE := env_sound (P := P) (w0 := w) (base := w.heap.size) (ev := opW P xt) (rv := regE P xt) (fun e hE hB => op_sound (good_of hty) (sized_of hty) hxt hE hB) (fun e hE hB => reg_sound hm (op_sound (good_of hty) (sized_of hty) hxt hE hB)) d
  have h3 := hE.call f #[] emptyH v h' phi0 #[] w h1 (empty_hr w) ⟨rfl, fun i x y h => by simp at h⟩
  refine Calls.mono (callsIn_wide.1 h3) ?_
  rintro e w' ⟨u, φ', rfl, hu, hh, _⟩
  exact ⟨v, h', u, φ', h2, rfl, hu, hh⟩
/-- What stands at a kind: 0 nothing, 1 a constant, 2 height + 1, 3 a read, 4 a receive. -/
def kindK (k : Nat) : Nat := match k with
  | 5 => 1 | 6 => 1 | 7 => 3 | 8 => 2 | 9 => 2 | 10 => 1 | 11 => 1 | 12 => 3 | 13 => 1 | 14 => 1 | 15 => 4 | 16 => 1 | _ => 0
def constK (k : Nat) : Nat := match k with
  | 5 => 4 | 14 => 3 | _ => 1
def fnB (n : Nat) : Value → Bool
  | .func (.func f) xs0 ys0 => Nat.beq f n && xs0.toList.isEmpty && ys0.toList.isEmpty
  | _ => false
noncomputable def constB (h : AHeap) (n : Nat) : Value → Bool
  | .func (.func f) xs0 ys0 => Nat.beq f 36 && xs0.toList.isEmpty && match ys0.toList with
    | [.pointer (some ⟨b, 0, none⟩)] => match h.blocks.get b with
      | some (.cells _ _ _ _ _ t) => match t.get 0 with
        | some (.int .i64 (.ofNat m)) => Nat.beq m n
        | _ => false
      | _ => false
    | _ => false
  | _ => false
noncomputable def entryB (P : Program) (h : AHeap) (b k : Nat) : Bool := match lookupV P 46 (.map (some b)) (.int .u8 (Int.ofNat k)) true h with
  | some (.tuple xs0) => match xs0.toList with
    | [v, .bool o] => match kindK k with
      | 0 => !o
      | 1 => o && constB h (constK k) v
      | 2 => o && fnB 37 v
      | 3 => o && fnB 38 v
      | _ => o && fnB 39 v
    | _ => false
  | _ => false
noncomputable def tabK (P : Program) (v : Value) (h : AHeap) : Option Bool := match v with
  | .map (some b) => some ((List.range 256).all (entryB P h b))
  | _ => none
theorem bounds_run : (envK Tryz.prog Closed.xt 8).call 18 [] emptyH (tabK Tryz.prog) = some true := by kernel_rfl
/-- The real memory behind the call: what a look-up at each kind finds. -/
def FnIs (w : World) (base k : Nat) (fv : Value) (ok : Bool) : Prop := match kindK k with
  | 0 => ok = false
  | 1 => ok = true ∧ ∃ c, base ≤ c ∧ c < w.heap.size ∧ fv = .func (.func 36) #[] #[.pointer (some ⟨c, 0, none⟩)] ∧ w.cell? ⟨c, 0, none⟩ = some (.int .i64 (constK k : Nat))
  | 2 => ok = true ∧ fv = .func (.func 37) #[] #[]
  | 3 => ok = true ∧ fv = .func (.func 38) #[] #[]
  | _ => ok = true ∧ fv = .func (.func 39) #[] #[]
def TabAt (w : World) (base : Nat) (m : Value) : Prop := ∀ k : Nat, k < 256 → ∃ fv ok, (Instr.lookup 46 m (.int .u8 (k : Int)) true).run Tryz.prog w = .ok (.tuple #[fv, .bool ok]) w ∧ FnIs w base k fv ok
theorem fnB_real {φ : Phi} {n : Nat} {v u : Value} (h : fnB n v = true) (hr : VR φ v u) : u = .func (.func n) #[] #[] := by
  unfold fnB at h
  split at h
  · rename_i f xs0 ys0
    simp only [Bool.and_eq_true, List.isEmpty_iff] at h
    obtain ⟨⟨h1, h2⟩, h3⟩ := h
    have e1 : xs0 = #[] := by simpa using h2
    have e2 : ys0 = #[] := by simpa using h3
    have e3 := Nat.eq_of_beq_eq_true h1
    subst e1 e2 e3
    cases hr with
    | func hf a1 a2 a3 a4 =>
      cases hf
      rename_i zs1 zs2 hy
      have e4 : zs1 = #[] := by simpa using a1.symm
      have e5 : zs2 = #[] := by simpa using a3.symm
      rw [e4, e5]
  · cases h
theorem constB_real {w0 w : World} {base : Nat} {φ : Phi} {ah : AHeap} {n : Nat} {v u : Value} (h : constB ah n v = true) (hr : VR φ v u) (H : HR w0 base φ ah w) :
    ∃ c, base ≤ c ∧ c < w.heap.size ∧ u = .func (.func 36) #[] #[.pointer (some ⟨c, 0, none⟩)] ∧ w.cell? ⟨c, 0, none⟩ = some (.int .i64 (n : Nat)) := by
  unfold constB at h
  split at h <;> first | (cases h; done) | skip
  rename_i f xs0 ys0
  simp only [Bool.and_eq_true, List.isEmpty_iff] at h
  obtain ⟨⟨h1, h2⟩, h3⟩ := h
  split at h3 <;> first | (cases h3; done) | skip
  rename_i b hbs
  split at h3 <;> first | (cases h3; done) | skip
  rename_i e sz x ro kin t hblk
  split at h3 <;> first | (cases h3; done) | skip
  rename_i m ht
  have e1 : xs0 = #[] := by simpa using h2
  have e2 : ys0 = #[.pointer (some ⟨b, 0, none⟩)] := by
    apply Array.ext'
    simpa using hbs
  have e3 := Nat.eq_of_beq_eq_true h1
  have e4 := Nat.eq_of_beq_eq_true h3
  subst e1 e2 e3 e4
  cases hr with
  | func hf a1 a2 a3 a4 =>
    cases hf
    rename_i zs1 zs2 hy
    have e5 : zs1 = #[] := by simpa using a1.symm
    have hs : zs2.size = 1 := by simpa using a3.symm
    obtain ⟨y, hy1⟩ : ∃ y, zs2 = #[y] := Array.size_eq_one_iff.1 hs
    subst hy1
    have hv := a4 0 (.pointer (some ⟨b, 0, none⟩)) y rfl rfl
    cases hv with
    | ptr ha =>
      cases ha with
      | @mk _ c _ hφ =>
        have hlo := H.lo _ _ hφ
        obtain ⟨c', arr, q1, q2, q3, q4⟩ := H.blocks b _ (H.real hφ) hblk
        rw [hφ] at q1
        cases q1
        obtain ⟨r1, u', r2, r3⟩ := q3.2.2 0 _ ht
        cases r3
        refine ⟨c, hlo.1, hlo.2, by rw [e5], ?_⟩
        rw [World.cell?]
        simp [q2, r2]
theorem bounds_tab (w : World) : Calls Tryz.prog 18 #[] w (fun e w' => ∃ m, e = .returned m ∧ TabAt w' w.heap.size m ∧ Below w.heap.size w w') := by
  refine (closed_k Closed.types Closed.xOk Closed.mixed bounds_run w).mono fun e w' h => ?_
  obtain ⟨v, h', u, φ, hk, he, hv, H⟩ := h
  refine ⟨u, he, ?_, H.below⟩
  obtain ⟨b, hvb, hall⟩ : ∃ b, v = .map (some b) ∧ (List.range 256).all (entryB Tryz.prog h' b) = true := by
    unfold tabK at hk
    split at hk
    · exact ⟨_, rfl, Option.some.inj hk⟩
    · cases hk
  clear hk
  subst hvb
  rw [List.all_eq_true] at hall
  intro k hk'
  have h1 := hall k (List.mem_range.2 hk')
  unfold entryB at h1
  split at h1 <;> first | (cases h1; done) | skip
  rename_i xs0 hl
  split at h1 <;> first | (cases h1; done) | skip
  rename_i fv o has
  obtain ⟨y, hy1, hy2⟩ := lookup_still (good_of Closed.types) H (t := 46) (by kernel_rfl) hv (.int : VR φ (.int .u8 (Int.ofNat k)) (.int .u8 (Int.ofNat k))) hl
  have e2 : xs0 = #[fv, .bool o] := Array.ext' (by simpa using has)
  subst e2
  cases hy2 with
  | @tuple _ zs1 hs hr =>
    have hs' : zs1.size = 2 := by simpa using hs.symm
    obtain ⟨y0, y1, e3⟩ : ∃ y0 y1, zs1 = #[y0, y1] := by
      rcases zs1 with ⟨_ | ⟨a, _ | ⟨b, _ | ⟨c, l⟩⟩⟩⟩
      · simp at hs'
      · simp at hs'
      · exact ⟨a, b, rfl⟩
      · simp at hs'
    subst e3
    have q0 := hr 0 fv y0 rfl rfl
    have q1 := hr 1 (.bool o) y1 rfl rfl
    cases q1
    refine ⟨y0, o, hy1, ?_⟩
    unfold FnIs
    split at h1
    · simpa using h1
    · skip
      simp only [Bool.and_eq_true] at h1
      exact ⟨h1.1, constB_real h1.2 q0 H⟩
    · skip
      simp only [Bool.and_eq_true] at h1
      exact ⟨h1.1, fnB_real h1.2 q0⟩
    · skip
      simp only [Bool.and_eq_true] at h1
      exact ⟨h1.1, fnB_real h1.2 q0⟩
    · simp only [Bool.and_eq_true] at h1
      exact ⟨h1.1, fnB_real h1.2 q0⟩
end Go.Proofs.YthaleaeeikmphaaGreat
