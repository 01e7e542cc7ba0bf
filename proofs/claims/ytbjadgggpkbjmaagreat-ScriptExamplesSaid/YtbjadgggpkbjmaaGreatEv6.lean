/- The evaluator, part 6. -/
import Derived.Test.YtbjadgggpkbjmaaGreatEv5
/- An evaluator of the model's code over an abstract heap: the operations do what the evaluator says. -/
namespace Go.Ab
open Go.RowKit
noncomputable section
section
variable {P : Program} {w0 : World} {base : Nat} {xt : XTab} {e : Env}
theorem withH_some {h h' : AHeap} {x : Option Value} {v : Value} (hx : withH h x = some (v, h')) : x = some v ∧ h = h' := by
  cases x with
  | none => cases hx
  | some y => cases hx; exact ⟨rfl, rfl⟩
theorem hU_some {h' : AHeap} {x : Option AHeap} {v : Value} (hx : hU x = some (v, h')) : x = some h' ∧ v = undef := by
  cases x with
  | none => cases hx
  | some y => cases hx; exact ⟨rfl, rfl⟩
theorem unitV_some {α : Type} {h' : AHeap} {x : Option (α × AHeap)} {v : Value} (hx : unitV x = some (v, h')) : ∃ a, x = some (a, h') ∧ v = undef := by
  cases x with
  | none => cases hx
  | some y => obtain ⟨a, h1⟩ := y; cases hx; exact ⟨a, rfl, rfl⟩
theorem ground_op {φ : Phi} {h : AHeap} {w : World} {o : Oper} {ρ : Operand → Value} {act : Act} {next : Act → World → Prop} {Q : Exit → Act → World → Prop} {r : Option Nat} {v : Value} (hd : noDefer o.op = true) (hs : noSelect o.op = true) (hg : groundV P o ρ = some v) (hop : ∀ x ∈ o.op.operands, VR φ (ρ x) (act.eval x)) (H : HR w0 base φ h w)
    (hn : ∀ φ' u w', Ext φ φ' → VR φ' v u → HR w0 base φ' h w' → next (act.put o.dst u) w') : o.wpIn (Fr r) 0 P act w next Q := by
  obtain ⟨h1, h2⟩ := ground_run (w := w) hg hs hop
  exact upon_pure hd h1 h2.vr H hn
/-- The types that an operation makes values of stand in the program's table. -/
def tIn (P : Program) : Op → Bool
  | .alloc t => hasT P t
  | .build t _ => hasT P t
  | .buildSlice t _ _ => hasEl P t
  | .makeSlice t _ _ => hasEl P t
  | .lookup t _ _ _ => hasEl P t
  | .mapEntry t _ _ => hasEl P t
  | .typeAssert _ _ t _ => hasT P t
  | .call c => match c.callee with
    | .builtin .append => match c.argTypes.toList with
      | t :: _ => hasEl P t
      | _ => true
    | _ => true
  | _ => true
/-- Operations that lay a new row ask that the next number be free. -/
def roomIn (h : AHeap) : Op → Bool
  | .buildSlice _ _ _ => h.room
  | .makeSlice _ _ _ => h.room
  | .call c => match c.callee with
    | .builtin .append => h.room
    | _ => true
  | _ => true
def opW (P : Program) (xt : XTab) : OpEv := fun e o ρ h => match tIn P o.op && roomIn h o.op with
  | true => opV P xt e o ρ h
  | false => none
theorem op_sound (G : Good P) (S : Sized P) (hxt : XOk P xt) (hE : EnvS P w0 base e) (hB : EnvB P e) : OpS P w0 base (opW P xt) e := by
  intro o ρ h v h' φ w act next Q r hv hd hop H hn
  unfold opW at hv
  split at hv <;> first | (cases hv; done) | skip
  rename_i hTR
  simp only [Bool.and_eq_true] at hTR
  obtain ⟨hT, hR⟩ := hTR
  obtain ⟨dst, op, type, pos, after, guard⟩ := o
  have two : ∀ {x y : Operand}, op.operands = #[x, y] → VR φ (ρ x) (act.eval x) ∧ VR φ (ρ y) (act.eval y) := fun {x y} e => ⟨hop x (by show x ∈ op.operands; rw [e]; simp), hop y (by show y ∈ op.operands; rw [e]; simp)⟩
  have one : ∀ {x : Operand}, op.operands = #[x] → VR φ (ρ x) (act.eval x) := fun {x} e => hop x (by show x ∈ op.operands; rw [e]; simp)
  have three : ∀ {x y z : Operand}, op.operands = #[x, y, z] → VR φ (ρ x) (act.eval x) ∧ VR φ (ρ y) (act.eval y) ∧ VR φ (ρ z) (act.eval z) := fun {x y z} e => ⟨hop x (by show x ∈ op.operands; rw [e]; simp), hop y (by show y ∈ op.operands; rw [e]; simp), hop z (by show z ∈ op.operands; rw [e]; simp)⟩
  cases op with
  | move x =>
    simp only [opV] at hv; cases hv
    exact upon_pure hd rfl (one rfl) H hn
  | assign x =>
    simp only [opV] at hv; cases hv
    exact upon_pure hd rfl (one rfl) H hn
  | pick c a b =>
    obtain ⟨h1, h2, h3⟩ := three rfl
    simp only [opV] at hv
    cases hc : ρ c with
    | bool bb =>
      rw [hc] at hv h1
      generalize hcc : act.eval c = cc at h1
      cases h1
      cases bb with
      | true => cases hv; exact upon_pure (u := act.eval a) hd (by simp [execOp, hcc, asBool, Result.andThen]) h2 H hn
      | false => cases hv; exact upon_pure (u := act.eval b) hd (by simp [execOp, hcc, asBool, Result.andThen]) h3 H hn
    | _ => rw [hc] at hv; cases hv
  | alloc t => exact upon_v hd rfl (RunV.of_arun (sr_alloc G t hT (.tuple #[]) (.tuple #[])) H hv) hn
  | box t x => exact upon_v hd rfl (RunV.of_arun (sr_box t (one rfl)) H hv) hn
  | build t ps =>
    simp only [opV] at hv
    split at hv <;> first | (cases hv; done) | skip
    rename_i c hc
    cases hv
    have hp : PartsR φ ((ps.map fun p => (p.1, ρ p.2)).toList) ((ps.map fun p => (p.1, act.eval p.2)).toList) := by
      rw [Array.toList_map, Array.toList_map]
      exact parts_r ps.toList fun x hx => hop x (by simpa [Op.operands] using hx)
    exact upon_v hd rfl (build_run G H hT hp (by rw [Array.toList_map]; exact hc)) hn
  | buildSlice t n ps =>
    simp only [opV] at hv
    split at hv <;> first | (cases hv; done) | skip
    rename_i hlt
    have hp : PartsR φ ((ps.map fun p => (p.1, ρ p.2)).toList) ((ps.map fun p => (p.1, act.eval p.2)).toList) := by
      rw [Array.toList_map, Array.toList_map]
      exact parts_r ps.toList fun x hx => hop x (by simpa [Op.operands] using hx)
    exact upon_v hd rfl (buildSlice_run G S H hR hT hp (by simpa using hlt) (by rw [Array.toList_map]; exact hv)) hn
  | insert t m k x =>
    obtain ⟨h1, h2, h3⟩ := three rfl
    obtain ⟨hv2, rfl⟩ := hU_some (x := updateV P t (ρ m) (ρ k) (ρ x) h) hv
    obtain ⟨w', e1, H'⟩ := update_run H h1 h2 h3 hv2
    exact upon_u hd rfl e1 (Ext.refl _) H' hn
  | load t a => exact upon_v hd rfl (RunV.of_arun (sr_loadAt t (one rfl)) H hv) hn
  | store t a x =>
    obtain ⟨h1, h2⟩ := two rfl
    obtain ⟨u, hv2, rfl⟩ := unitV_some (x := arun P (Instr.storeAt t (ρ a) (ρ x)) h) hv
    obtain ⟨φ', u', w', e1, _, H', he'⟩ := arun_sound (sr_storeAt (P := P) t h1 h2) H hv2
    exact upon_u hd rfl e1 he' H' hn
  | ready g => cases hv
  | waits g => cases hv
  | nilCheck x =>
    have h1 := one rfl
    simp only [opV] at hv
    cases hx : ρ x with
    | pointer a =>
      rw [hx] at hv h1
      cases a with
      | none => cases hv
      | some a =>
        cases hv
        generalize hcc : act.eval x = cc at h1
        cases h1 with
        | @ptr _ a' ha => exact upon_pure (u := .pointer (some a')) hd (by simp [execOp, hcc]) (.ptr ha) H hn
    | func fn as bs =>
      rw [hx] at hv h1
      cases fn with
      | func g =>
        cases hv
        generalize hcc : act.eval x = cc at h1
        have h1' := h1
        cases h1 with
        | func hf _ _ _ _ =>
          cases hf with
          | same _ => exact upon_pure hd (by simp [execOp, hcc]) h1' H hn
      | _ => cases hv
    | _ => rw [hx] at hv; cases hv
  | binOp op t x y yt =>
    obtain ⟨h1, h2⟩ := two rfl
    simp only [opV] at hv
    split at hv
    · rename_i v0 hc
      cases hv
      obtain ⟨e1, hp⟩ := cmp_run (P := P) (w := w) (x := x) (y := y) h1 h2 hc
      exact upon_v hd rfl ⟨φ, v, w, e1, hp.vr, H, Ext.refl _⟩ hn
    · obtain ⟨hg, rfl⟩ := withH_some hv
      exact ground_op hd rfl hg hop H hn
  | unOp op t x =>
    obtain ⟨hg, rfl⟩ := withH_some (x := groundV P _ ρ) hv
    exact ground_op hd rfl hg hop H hn
  | convert s d x =>
    have hx := one rfl
    simp only [opV] at hv
    split at hv
    · rename_i v0 hg
      cases hv
      exact ground_op hd rfl hg hop H hn
    · split at hv <;> first | (cases hv; done) | skip
      · rename_i a hxs
        obtain ⟨hu, rfl⟩ := withH_some hv
        rw [hxs] at hx
        have hex : execOp act.eval { dst := dst, op := .convert s d x, type := type, pos := pos, after := after, guard := guard } = (do pure (.value (← convert s d (act.eval x)))) := rfl
        generalize act.eval x = y at hx hex
        cases hx with
        | ptr ha => exact upon_v hd hex (unsafe_run H ha hu) hn
      · rename_i a n k hxs
        rw [hxs] at hx
        have hex : execOp act.eval { dst := dst, op := .convert s d x, type := type, pos := pos, after := after, guard := guard } = (do pure (.value (← convert s d (act.eval x)))) := rfl
        generalize act.eval x = y at hx hex
        split at hv <;> first | (cases hv; done) | skip
        rename_i e hs hdd
        split at hv <;> first | (cases hv; done) | skip
        rename_i he
        cases hx with
        | sl ha _ => exact upon_v hd hex (bytes_run H hs hdd he ha hv) hn
  | sliceToArrayPointer a x => cases hv
  | makeInterface t x => exact upon_v hd rfl (RunV.of_arun (sr_makeInterface t (one rfl)) H hv) hn
  | makeFunc fn first cap =>
    simp only [opV] at hv
    split at hv <;> first | (cases hv; done) | skip
    rename_i hny
    cases hv
    have h1 : AsR φ (argsV ρ first.toList).toArray (argsV act.eval first.toList).toArray := args_r _ fun x hx => hop x (by simp [Op.operands]; exact .inl (by simpa using hx))
    have h2 : AsR φ (argsV ρ cap.toList).toArray (argsV act.eval cap.toList).toArray := args_r _ fun x hx => hop x (by simp [Op.operands]; exact .inr (by simpa using hx))
    refine upon_pure hd (u := .func fn (argsV act.eval first.toList).toArray (argsV act.eval cap.toList).toArray) ?_ (.func (.same fun l e => by subst e; cases hny) h1.1 h1.2 h2.1 h2.2) H hn
    simp [execOp, Instr.makeFunc, map_args, Result.andThen]
  | makeMap t rr => exact upon_v hd rfl (RunV.of_arun (sr_makeMap t (opt_r rr fun y e => hop y (by subst e; simp [Op.operands]))) H hv) hn
  | makeChan t s => cases hv
  | makeSlice t l c =>
    obtain ⟨h1, h2⟩ := two rfl
    exact upon_v hd rfl (make_run G S H hR hT h1 h2 hv) hn
  | slice t x lo hi mx =>
    have hx : VR φ (ρ x) (act.eval x) := hop x (by simp [Op.operands])
    have hlo : OptVR φ (lo.map ρ) (lo.map act.eval) := opt_r lo fun y e => hop y (by subst e; simp [Op.operands])
    have hhi : OptVR φ (hi.map ρ) (hi.map act.eval) := opt_r hi fun y e => hop y (by subst e; simp [Op.operands])
    have hmx : OptVR φ (mx.map ρ) (mx.map act.eval) := opt_r mx fun y e => hop y (by subst e; simp [Op.operands])
    simp only [opV] at hv
    split at hv
    · rename_i a n k hxs
      split at hv <;> first | (cases hv; done) | skip
      rename_i el hu
      split at hv <;> first | (cases hv; done) | skip
      rename_i i hie
      obtain ⟨hs, rfl⟩ := withH_some hv
      rw [hxs] at hx
      exact upon_v hd rfl (slice_run H hu hie hx hlo hhi hmx hs) hn
    · obtain ⟨hg, rfl⟩ := withH_some hv
      exact ground_op hd rfl hg hop H hn
  | fieldAddr s x f =>
    simp only [opV] at hv
    split at hv <;> first | (cases hv; done) | skip
    rename_i hf
    exact upon_v hd rfl (RunV.of_arun (sr_fieldAt s (one rfl) f fun fs y i hu hy hi h0 => by
      unfold fieldOk at hf
      rw [hu] at hf
      simp only [hy, hi] at hf
      rw [h0] at hf
      cases hf) H hv) hn
  | field t x f => exact upon_v hd rfl (RunV.of_arun (sr_field t (one rfl) f) H hv) hn
  | indexAddr t x i =>
    obtain ⟨h1, h2⟩ := two rfl
    exact upon_v hd rfl (RunV.of_arun (sr_indexAt t h1 h2) H hv) hn
  | index t x i =>
    obtain ⟨h1, h2⟩ := two rfl
    exact upon_v hd rfl (RunV.of_arun (sr_index t h1 h2) H hv) hn
  | lookup t x i ok =>
    obtain ⟨h1, h2⟩ := two rfl
    obtain ⟨hl, rfl⟩ := withH_some (x := lookupV P t (ρ x) (ρ i) ok h) hv
    exact upon_v hd rfl (lookup_run G H hT h1 h2 hl) hn
  | mapUpdate t m k x =>
    obtain ⟨h1, h2, h3⟩ := three rfl
    obtain ⟨hv2, rfl⟩ := hU_some (x := updateV P t (ρ m) (ρ k) (ρ x) h) hv
    obtain ⟨w', e1, H'⟩ := update_run H h1 h2 h3 hv2
    exact upon_u hd rfl e1 (Ext.refl _) H' hn
  | mapEntry t m k =>
    obtain ⟨h1, h2⟩ := two rfl
    exact upon_v hd rfl (entry_run G H hT h1 h2 hv) hn
  | entryStore t m s x =>
    obtain ⟨h1, h2, h3⟩ := three rfl
    obtain ⟨hv2, rfl⟩ := hU_some (x := entryStoreV (ρ m) (ρ s) (ρ x) h) hv
    obtain ⟨w', e1, H'⟩ := entryStore_run (P := P) (t := t) H h1 h2 h3 hv2
    exact upon_u hd rfl e1 (Ext.refl _) H' hn
  | range t x => exact upon_v hd rfl (RunV.of_arun (sr_range t (one rfl)) H hv) hn
  | next it b => exact upon_v hd rfl (RunV.of_arun (sr_next (one rfl) b type) H hv) hn
  | entry it => exact upon_v hd rfl (RunV.of_arun (sr_entry (one rfl)) H hv) hn
  | typeAssert x t a ok => exact upon_v hd rfl (RunV.of_arun (sr_typeAssert G (one rfl) t a hT ok) H hv) hn
  | extract x i => exact upon_v hd rfl (RunV.of_arun (sr_extract (one rfl) i) H hv) hn
  | call c =>
    have hargs : AsR φ (argsV ρ c.args.toList).toArray (argsV act.eval c.args.toList).toArray := args_r _ fun x hx => hop x (by simp [Op.operands, Call.operands]; exact .inr (by simpa using hx))
    have hv' : calleeV P xt e c type ρ h = some (v, h') := hv
    unfold calleeV at hv'
    cases hcal : c.callee with
    | value f =>
      rw [hcal] at hv'
      simp only at hv'
      have hf : VR φ (ρ f) (act.eval f) := hop f (by simp [Op.operands, Call.operands, hcal])
      split at hv' <;> first | (cases hv'; done) | skip
      · rename_i g first cap hfe
        obtain ⟨first', cap', hu, h1, h2⟩ := deferred_value hf hfe
        refine upon_call hE hB hxt hd ((h1.append hargs).append h2) H ?_ hv' hn
        simp [execOp, resolve, hcal, hu, Deferred.ofValue, invoke, map_args, Result.andThen]
      · rename_i l first cap hfe
        rw [hfe] at hf
        generalize hcc : act.eval f = cc at hf
        cases hf with
        | func hff q1 q2 q3 q4 =>
          cases hff with
          | same hne => exact absurd rfl (hne _)
          | @yield _ l' hl =>
            refine upon_yield hE hd hl (AsR.append ⟨q1, q2⟩ hargs) H ?_ hv' hn
            simp [execOp, resolve, hcal, hcc, Deferred.ofValue, invoke, map_args, Result.andThen]
    | invoke rc name =>
      rw [hcal] at hv'
      simp only at hv'
      have hf : VR φ (ρ rc) (act.eval rc) := hop rc (by simp [Op.operands, Call.operands, hcal])
      split at hv' <;> first | (cases hv'; done) | skip
      rename_i t v0 hrc
      rw [hrc] at hf
      generalize hcc : act.eval rc = cc at hf
      cases hf with
      | @iface _ _ u0 hvu =>
        split at hv' <;> first | (cases hv'; done) | skip
        rename_i f hm
        refine upon_call hE hB hxt hd ((AsR.one hvu).append hargs) H ?_ hv' hn
        have hmr : ∀ k, (method (k + 1) t u0 name).run P w = .ok (f, u0) w := by
          intro k
          unfold methodV at hm
          split at hm <;> first | (cases hm; done) | skip
          rename_i i hi
          split at hm <;> first | (cases hm; done) | skip
          rename_i m hfind
          split at hm <;> first | (cases hm; done) | skip
          · rename_i f0 el hpe hfu hu
            cases hm
            have hp : m.path.toList = [] := by
              have : m.path = #[] := by simpa using hpe
              rw [this]
            unfold method
            simp [typeInfo, hi, hfind, hp, follow, hfu, receiverAt, run_underlying hu, Place.get, Result.andThen]
          · rename_i f0 d hpe hfu hu
            split at hm <;> first | (cases hm; done) | skip
            rename_i hnp
            cases hm
            have hp : m.path.toList = [] := by
              have : m.path = #[] := by simpa using hpe
              rw [this]
            unfold method
            cases d <;> first | (exact absurd rfl (hnp _)) | simp [typeInfo, hi, hfind, hp, follow, hfu, receiverAt, run_underlying hu, Place.get, Result.andThen]
        have hm2 : (callMethod (.iface t u0) name (argsV act.eval c.args.toList).toArray).run P w = (callFunc f (#[u0] ++ (argsV act.eval c.args.toList).toArray)).run P w := by
          unfold callMethod
          simp only [Sem.run_bind, run_program, Result.andThen]
          rw [show P.types.size + Made.depth = (P.types.size + Made.depth - 1) + 1 from by unfold Made.depth; omega, hmr]
        have hex2 : ((#[Value.iface t u0] ++ (argsV act.eval c.args.toList).toArray).extract 1 (#[Value.iface t u0] ++ (argsV act.eval c.args.toList).toArray).size) = (argsV act.eval c.args.toList).toArray := by
          apply Array.ext'
          simp
        simp only [execOp, resolve, hcal, hcc, map_args, Sem.run_bind, Sem.run_pure, Result.andThen, invoke]
        have hg0 : (#[Value.iface t u0] ++ (argsV act.eval c.args.toList).toArray)[0]? = some (Value.iface t u0) := by simp
        simp only [hg0]
        rw [hex2]
        exact hm2
    | builtin b =>
      rw [hcal] at hv'
      simp only at hv'
      have hex : execOp act.eval { dst := dst, op := .call c, type := type, pos := pos, after := after, guard := guard } = builtin b c.argTypes type (c.args.map fun | .const _ => true | _ => false) (argsV act.eval c.args.toList).toArray := by
        simp only [execOp, resolve, hcal, map_args]
        rfl
      split at hv' <;> first | (cases hv'; done) | skip
      · rename_i s x t xt' hl hts
        have hts' := array_toList2 hts
        have hl2 : ∃ s' x', argsV act.eval c.args.toList = [s', x'] ∧ VR φ s s' ∧ VR φ x x' := by
          rw [hl] at hargs
          match argsV act.eval c.args.toList, hargs with
          | [s', x'], hg => exact ⟨s', x', rfl, hg.2 0 _ _ (by simp) (by simp), hg.2 1 _ _ (by simp) (by simp)⟩
          | [], hg => have := hg.1; simp at this
          | [_], hg => have := hg.1; simp at this
          | _ :: _ :: _ :: _, hg => have := hg.1; simp at this
        obtain ⟨s', x', e1, hs', hx'⟩ := hl2
        have hres : RunV P w0 base φ w v h' (Builtin.append_ #[t, xt'] type #[s', x']) := by
          split at hv'
          · rename_i r hr
            cases hv'
            exact append_sound (ty := type) S H (by simpa only [roomIn, hcal] using hR) (by simpa only [tIn, hcal, hts] using hT) hs' hx' hr
          · exact made_sound (ty := type) G S H (by simpa only [roomIn, hcal] using hR) (by simpa only [tIn, hcal, hts] using hT) hs' hx' hv'
        refine upon_v (s := Builtin.append_ #[t, xt'] type #[s', x']) hd ?_ hres hn
        rw [hex, e1, hts']
        rfl
      · rename_i n0 k0 hl
        have hl2 : ∃ x', argsV act.eval c.args.toList = [x'] ∧ VR φ (.slice none n0 k0) x' := by
          rw [hl] at hargs
          match argsV act.eval c.args.toList, hargs with
          | [x'], hg => exact ⟨x', rfl, hg.2 0 _ _ (by simp) (by simp)⟩
          | [], hg => have := hg.1; simp at this
          | _ :: _ :: _, hg => have := hg.1; simp at this
        obtain ⟨x', e1, hx'⟩ := hl2
        cases hv'
        cases hx'
        refine upon_v (s := Builtin.unsafeSliceData_ c.argTypes type #[.slice none n0 k0]) hd ?_ ⟨φ, .pointer none, w, rfl, .ptrNil, H, Ext.refl _⟩ hn
        rw [hex, e1]
        rfl
      · rename_i a n0 k0 hl
        have hl2 : ∃ x', argsV act.eval c.args.toList = [x'] ∧ VR φ (.slice (some a) n0 k0) x' := by
          rw [hl] at hargs
          match argsV act.eval c.args.toList, hargs with
          | [x'], hg => exact ⟨x', rfl, hg.2 0 _ _ (by simp) (by simp)⟩
          | [], hg => have := hg.1; simp at this
          | _ :: _ :: _, hg => have := hg.1; simp at this
        obtain ⟨x', e1, hx'⟩ := hl2
        split at hv' <;> first | (cases hv'; done) | skip
        rename_i hk
        have hk' : 0 < k0 % unk := by simpa using hk
        cases hv'
        cases hx' with
        | @sl _ a' _ _ k' ha hc =>
          have hne : k' ≠ 0 := by
            rcases Nat.lt_or_ge k0 unk with hlt | hge
            · have e2 := hc.1 hlt
              rw [Nat.mod_eq_of_lt hlt] at hk'
              omega
            · have := (hc.2 hge).1
              omega
          refine upon_v (s := Builtin.unsafeSliceData_ c.argTypes type #[.slice (some a') n0 k']) hd ?_ (sliceData_run H ha hne) hn
          rw [hex, e1]
          rfl
      · rename_i kd pt pts hl hts
        have hl2 : ∃ s' x', argsV act.eval c.args.toList = [s', x'] ∧ VR φ (.pointer none) s' ∧ VR φ (.int kd (.ofNat 0)) x' := by
          rw [hl] at hargs
          match argsV act.eval c.args.toList, hargs with
          | [s', x'], hg => exact ⟨s', x', rfl, hg.2 0 _ _ (by simp) (by simp), hg.2 1 _ _ (by simp) (by simp)⟩
          | [], hg => have := hg.1; simp at this
          | [_], hg => have := hg.1; simp at this
          | _ :: _ :: _ :: _, hg => have := hg.1; simp at this
        obtain ⟨s', x', e1, hs', hx'⟩ := hl2
        have hts0 : c.argTypes[0]? = some pt := by
          have : c.argTypes.toList[0]? = some pt := by rw [hts]; rfl
          simpa using this
        cases hv'
        cases hs'
        cases hx'
        refine upon_v (s := Builtin.unsafeString_ c.argTypes type #[.pointer none, .int kd (.ofNat 0)]) hd ?_ ⟨φ, .string .empty, w, ?_, .string, H, Ext.refl _⟩ hn
        · rw [hex, e1]
          rfl
        · have hdef : Builtin.unsafeString_ c.argTypes type #[.pointer none, .int kd (.ofNat 0)] = (do
            let n ← asInt (.int kd (.ofNat 0))
            let some pt := c.argTypes[0]? | stuck "unsafe.String: no argument types"
            if n < 0 then runtimePanic (.error "unsafe.String: len out of range")
            if n > IntKind.i64.max then unsupported (.unsafePointer "String: a length above the largest int")
            if n = 0 then pure (.string .empty)
            else runtimePanic (.error "unsafe.String: ptr is nil and len is not zero")) := rfl
          rw [hdef]
          simp [asInt, asIntOf, hts0]
      · rename_i a kd m pt pts hl hts
        have hl2 : ∃ s' x', argsV act.eval c.args.toList = [s', x'] ∧ VR φ (.pointer (some a)) s' ∧ VR φ (.int kd (.ofNat m)) x' := by
          rw [hl] at hargs
          match argsV act.eval c.args.toList, hargs with
          | [s', x'], hg => exact ⟨s', x', rfl, hg.2 0 _ _ (by simp) (by simp), hg.2 1 _ _ (by simp) (by simp)⟩
          | [], hg => have := hg.1; simp at this
          | [_], hg => have := hg.1; simp at this
          | _ :: _ :: _ :: _, hg => have := hg.1; simp at this
        obtain ⟨s', x', e1, hs', hx'⟩ := hl2
        have hts0 : c.argTypes[0]? = some pt := by
          have : c.argTypes.toList[0]? = some pt := by rw [hts]; rfl
          simpa using this
        cases hx'
        cases hs' with
        | @ptr _ a' ha =>
          refine upon_v (s := Builtin.unsafeString_ c.argTypes type #[.pointer (some a'), .int kd (m : Int)]) hd ?_ (unsafeStr_run H hts0 ha hv') hn
          rw [hex, e1]
          rfl
      · rename_i hl
        refine upon_v (s := Builtin.copy_ c.argTypes type (argsV act.eval c.args.toList).toArray) hd ?_ (RunV.of_arun (sr_copy c.argTypes type hargs) H hv') hn
        rw [hex]; rfl
      · rename_i ka kb t hl hts
        have hts' : c.argTypes = #[t] := by
          have := congrArg List.toArray hts
          simpa using this
        have hl2 : ∃ x', argsV act.eval c.args.toList = [x'] ∧ VR φ (.complex .f64 ka kb) x' := by
          rw [hl] at hargs
          match argsV act.eval c.args.toList, hargs with
          | [x'], hg => exact ⟨x', rfl, hg.2 0 _ _ (by simp) (by simp)⟩
          | [], hg => have := hg.1; simp at this
          | _ :: _ :: _, hg => have := hg.1; simp at this
        obtain ⟨x', e1, hx'⟩ := hl2
        cases hx' with
        | @amb a kk =>
          split at hv' <;> first | (cases hv'; done) | skip
          rename_i el hu
          cases hv'
          refine upon_v (s := Builtin.len_ #[t] type #[.slice (some a) 0 kk]) hd ?_ ⟨φ, goInt 0, w, ?_, .int, H, Ext.refl _⟩ hn
          · rw [hex, e1, hts']
            rfl
          · simp [Builtin.len_, run_underlying hu, goInt]
      · rename_i hl
        refine upon_v (s := Builtin.len_ c.argTypes type (argsV act.eval c.args.toList).toArray) hd ?_ (RunV.of_arun (sr_len c.argTypes type hargs) H hv') hn
        rw [hex]; rfl
      · rename_i m k t ts hl hts
        obtain ⟨hv2, rfl⟩ := hU_some hv'
        have hl2 : ∃ s' x', argsV act.eval c.args.toList = [s', x'] ∧ VR φ m s' ∧ VR φ k x' := by
          rw [hl] at hargs
          match argsV act.eval c.args.toList, hargs with
          | [s', x'], hg => exact ⟨s', x', rfl, hg.2 0 _ _ (by simp) (by simp), hg.2 1 _ _ (by simp) (by simp)⟩
          | [], hg => have := hg.1; simp at this
          | [_], hg => have := hg.1; simp at this
          | _ :: _ :: _ :: _, hg => have := hg.1; simp at this
        obtain ⟨s', x', e1, hs', hx'⟩ := hl2
        have hts0 : c.argTypes[0]? = some t := by
          have : c.argTypes.toList[0]? = some t := by rw [hts]; rfl
          simpa using this
        obtain ⟨w', r1, H'⟩ := delete_run (ty := type) H hts0 hs' hx' hv2
        refine upon_v (s := Builtin.delete_ c.argTypes type #[s', x']) hd ?_ ⟨φ, _, w', r1, vr_undef, H', Ext.refl _⟩ hn
        rw [hex, e1]
        rfl
      · obtain ⟨hm, rfl⟩ := withH_some hv'
        obtain ⟨m1, m2, m3⟩ := mmV_some hm
        have hl := plain_list m1 hargs
        refine upon_v (s := Builtin.min_ c.argTypes type (argsV ρ c.args.toList).toArray) hd ?_ ⟨φ, v, w, qrun_run P _ w m2, (plain_of m3).vr, H, Ext.refl _⟩ hn
        rw [hex, hl]; rfl
      · obtain ⟨hm, rfl⟩ := withH_some hv'
        obtain ⟨m1, m2, m3⟩ := mmV_some hm
        have hl := plain_list m1 hargs
        refine upon_v (s := Builtin.max_ c.argTypes type (argsV ρ c.args.toList).toArray) hd ?_ ⟨φ, v, w, qrun_run P _ w m2, (plain_of m3).vr, H, Ext.refl _⟩ hn
        rw [hex, hl]; rfl
      · rename_i b0 n0 k0 t hl hts
        have hts' : c.argTypes = #[t] := by
          have := congrArg List.toArray hts
          simpa using this
        have hl2 : ∃ x', argsV act.eval c.args.toList = [x'] ∧ VR φ (.slice b0 n0 k0) x' := by
          rw [hl] at hargs
          match argsV act.eval c.args.toList, hargs with
          | [x'], hg => exact ⟨x', rfl, hg.2 0 _ _ (by simp) (by simp)⟩
          | [], hg => have := hg.1; simp at this
          | _ :: _ :: _, hg => have := hg.1; simp at this
        obtain ⟨x', e1, hx'⟩ := hl2
        split at hv' <;> first | (cases hv'; done) | skip
        rename_i el hu
        split at hv' <;> first | (cases hv'; done) | skip
        rename_i hk
        have hk' : k0 < unk := by simpa using hk
        cases hv'
        have hcap : ∃ b1, x' = .slice b1 n0 k0 := by
          cases hx' with
          | slNil _ => exact ⟨_, rfl⟩
          | sl _ hc => exact ⟨_, by rw [hc.1 hk']⟩
        obtain ⟨b1, rfl⟩ := hcap
        refine upon_v (s := Builtin.cap_ #[t] type #[.slice b1 n0 k0]) hd ?_ ⟨φ, goInt k0, w, ?_, .int, H, Ext.refl _⟩ hn
        · rw [hex, e1, hts']
          rfl
        · simp [Builtin.cap_, run_underlying hu, goInt]
  | go c => cases hv
  | defer c => cases hv
  | panic x => cases hv
  | send c x => cases hv
  | recv t c ok => cases hv
  | select cs b => cases hv
end
end
end Go.Ab
