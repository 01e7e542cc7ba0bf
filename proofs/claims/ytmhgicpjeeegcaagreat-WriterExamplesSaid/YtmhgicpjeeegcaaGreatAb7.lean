/- An evaluator of the model's code over an abstract heap: calls. -/
import Derived.Test.YtmhgicpjeeegcaaGreatAb6
namespace Go.Ab
open Go.RowKit
noncomputable section

def resS (ρ : Nat → Value) : List ResultVar → Sem (List Value)
  | [] => pure []
  | .tmp t :: l => do
    let vs ← resS ρ l
    pure (ρ t :: vs)
  | .cell a ty :: l => do
    let v ← (do loadVar ty (← asAddr (ρ a)))
    let vs ← resS ρ l
    pure (v :: vs)
def packR : List Value → Value
  | [v] => v
  | vs => .tuple vs.toArray
def leaveE (P : Program) : List Deferred → AHeap → Option AHeap
  | [], h => some h
  | ⟨.collected r, _⟩ :: ds, h => match arun P (Instr.takeDeferred r) h with
    | some ([], h') => leaveE P ds h'
    | _ => none
  | _ :: _, _ => none
def okFn (fn : Func) : Bool := match fn.body with
  | some c => !(fn.name == "runtime.NumGoroutine") && codeOk fn.ntmps c
  | none => false
def tmpOf (a : AAct) (t : Nat) : Value := (a.tmps.get t).getD undef
def envE (P : Program) (ev : OpEv) (rv : RegEv) : Nat → Env
  | 0 => ⟨fun _ _ _ => none, fun _ _ _ _ _ => none⟩
  | d + 1 =>
    { call := fun f args h => match P.funcs[f]? with
        | some fn => match okFn fn && Nat.ble args.size fn.ntmps with
          | true => match fn.body with
            | some c => match codeE P ev rv (envE P ev rv d) fn.ntmps none c ⟨T.ofList args.toList, []⟩ h with
              | some (.exit _, _, _) => none
              | some (_, a1, h1) => match leaveE P a1.defers h1 with
                | some h2 => match arun P (resS (tmpOf a1) fn.results.toList) h2 with
                  | some (vs, h3) => some (packR vs, h3)
                  | none => none
                | none => none
              | none => none
            | none => none
          | false => none
        | none => none
      round := fun l tmps x y h => match codeOk tmps.size x && codeOk tmps.size y with
        | true => match codeE P ev rv (envE P ev rv d) tmps.size (some l) x ⟨T.ofList tmps.toList, []⟩ h with
          | some (.normal, a1, h1) => match arun P (Instr.beginRound l) h1 with
            | some (_, h2) => match codeE P ev rv (envE P ev rv d) tmps.size (some l) y a1 h2 with
              | some (.normal, _, h3) => arun P (Instr.endRound l none) h3
              | some (.ret, _, h3) => arun P (Instr.endRound l (some .ret)) h3
              | some (.exit i, _, h3) => arun P (Instr.endRound l (some (.exit i))) h3
              | none => none
            | none => none
          | _ => none
        | false => none }

section
variable {P : Program} {w0 : World} {base : Nat}
theorem sr_asAddr {φ : Phi} {v u : Value} (h : VR φ v u) : SR P AddrR φ (asAddr v) (asAddr u) := by
  cases h <;> first | exact .pure ‹_› | exact .halt | exact .stops (stops_panic (P := P) (α := Addr) .nilDeref)
def ListR (φ : Phi) (l l' : List Value) : Prop := AsR φ l.toArray l'.toArray
theorem ListR.cons {φ : Phi} {x y : Value} {l l' : List Value} (h : VR φ x y) (h' : ListR φ l l') : ListR φ (x :: l) (y :: l') := by
  have := (AsR.one h).append h'
  simpa [ListR] using this
/-- The results of a function, as the model reads them. -/
def resG (tmps : Array Value) : ResultVar → Sem Value
  | .tmp t => pure (tmps.getD t undef)
  | .cell a t => do loadVar t (← asAddr (tmps.getD a undef))
theorem sr_resS {ρ : Nat → Value} {tmps : Array Value} : ∀ (l : List ResultVar) {φ : Phi}, (∀ i, VR φ (ρ i) (tmps.getD i undef)) → SR P ListR φ (resS ρ l) (l.mapM (resG tmps))
  | [], _, _ => .pure (AsR.empty _)
  | .tmp t :: l, φ, h => by
    rw [List.mapM_cons]
    show SR P ListR φ (resS ρ l >>= fun vs => pure (ρ t :: vs)) (l.mapM (resG tmps) >>= fun vs => pure (tmps.getD t undef :: vs))
    refine SR.bind' (sr_resS l h) fun φ1 a b he hab => ?_
    exact .pure (ListR.cons ((h t).mono he) hab)
  | .cell a ty :: l, φ, h => by
    rw [List.mapM_cons]
    refine SR.bind' (R := VR) (SR.bind' (sr_asAddr (h a)) fun φ1 x y he hxy => sr_loadVar ty hxy) fun φ1 v u he hvu => ?_
    refine SR.bind' (sr_resS (φ := φ1) l fun i => (h i).mono he) fun φ2 vs us he2 hvs => ?_
    exact .pure (ListR.cons (hvu.mono he2) hvs)
theorem packR_r {φ : Phi} {l l' : List Value} (h : ListR φ l l') : VR φ (packR l) (packR l') := by
  match l, l', h with
  | [], [], _ => exact vr_undef
  | [], _ :: _, h => have := h.1; simp at this
  | _ :: _, [], h => have := h.1; simp at this
  | [x], [y], h => exact h.2 0 x y (by simp) (by simp)
  | [_], _ :: _ :: _, h => have := h.1; simp at this
  | _ :: _ :: _, [_], h => have := h.1; simp at this
  | _ :: _ :: _, _ :: _ :: _, h => exact .tuple h.1 h.2
theorem results_eq (fn : Func) (tmps : Array Value) : results fn tmps = (do let vs ← fn.results.toList.mapM (resG tmps); pure (packR vs)) := by
  unfold results
  rw [Array.mapM_eq_mapM_toList]
  simp only [map_eq_pure_bind, bind_assoc, pure_bind]
  congr 1
  funext vs
  congr 1
  match vs with
  | [] => rfl
  | [x] => rfl
  | _ :: _ :: _ => rfl

/-- A tree that leaves the world as it is. -/
def Still (P : Program) {α : Type} (s : Sem α) : Prop := ∀ w a w', s.run P w = .ok a w' → w' = w
theorem Still.bind {α β : Type} {s : Sem α} {f : α → Sem β} (h : Still P s) (hf : ∀ a, Still P (f a)) : Still P (s >>= f) := fun w a w' hr => by
  rw [Sem.run_bind] at hr
  cases hs : s.run P w with
  | halt x wx => rw [hs] at hr; cases hr
  | ok b w1 =>
    rw [hs] at hr
    obtain rfl := h w b w1 hs
    exact hf b _ a w' hr
theorem Still.pure {α : Type} (a : α) : Still P (Pure.pure a : Sem α) := fun w b w' h => by cases h; rfl
theorem Still.halt {α : Type} (x : Halt) : Still P (.halt x : Sem α) := fun w b w' h => by cases h
theorem still_program : Still P Go.program := fun w b w' h => by cases h; rfl
theorem still_underlying (t : TypeId) : Still P (underlying t) := Still.bind still_program fun p => by
  cases p.underlying t with
  | none => exact Still.halt _
  | some d => exact Still.pure d
theorem still_sizeOf (t : TypeId) : Still P (sizeOf t) := Still.bind (Still.bind still_program fun p => by
  cases p.info? t with
  | none => exact Still.halt _
  | some d => exact Still.pure d) fun i => Still.pure _
theorem still_isAgg (t : TypeId) : Still P (isAgg t) := Still.bind (still_underlying t) fun d => by cases d <;> exact Still.pure _
theorem still_load (a : Addr) : Still P (load a) := fun w v w' h => by
  rw [run_load] at h
  cases hc : w.cell? a with
  | some u => rw [hc] at h; cases h; rfl
  | none =>
    rw [hc] at h
    cases hf : w.farLoad P a (Mode.plain == .atomic) with
    | ok x =>
      rw [hf] at h
      simp only at h
      cases h; rfl
    | error e => rw [hf] at h; cases h
theorem still_loadCellsFrom : ∀ (n i : Nat) (a : Addr) (c : Array Value), Still P (loadCellsFrom a i n c)
  | 0, _, _, _ => Still.pure _
  | n + 1, i, a, c => Still.bind (still_load _) fun v => still_loadCellsFrom n (i + 1) a _
theorem still_loadVar (t : TypeId) (a : Addr) : Still P (loadVar t a) := Still.bind (still_isAgg t) fun b => by
  cases b with
  | true => exact Still.bind (still_sizeOf t) fun n => Still.bind (still_loadCellsFrom n 0 a #[]) fun c => Still.pure _
  | false => exact still_load a
theorem still_panic {α : Type} (e : RuntimeError) : Still P (runtimePanic e : Sem α) := fun w b w' h => by
  unfold runtimePanic at h
  rw [Sem.run_bind] at h
  cases e <;> simp [Sem.run_bind, Result.andThen] at h
  · split at h
    · rename_i a w1 _
      split at h <;> cases h
    · cases h
  · split at h
    · rename_i a w1 _
      split at h <;> cases h
    · cases h
theorem still_asAddr (v : Value) : Still P (asAddr v) := by
  cases v <;> first | exact Still.halt _ | skip
  rename_i a
  cases a with
  | none => exact still_panic .nilDeref
  | some a => exact Still.pure a
theorem still_resG (tmps : Array Value) (x : ResultVar) : Still P (resG tmps x) := by
  cases x with
  | tmp t => exact Still.pure _
  | cell a t => exact Still.bind (still_asAddr _) fun p => still_loadVar t p
theorem still_mapM (tmps : Array Value) : ∀ l : List ResultVar, Still P (l.mapM (resG tmps))
  | [] => Still.pure _
  | x :: l => by
    rw [List.mapM_cons]
    exact Still.bind (still_resG tmps x) fun v => Still.bind (still_mapM tmps l) fun vs => Still.pure _
theorem still_results (fn : Func) (tmps : Array Value) : Still P (results fn tmps) := by
  rw [results_eq]
  exact Still.bind (still_mapM tmps _) fun vs => Still.pure _

theorem sr_takeDeferred {φ : Phi} {r r' : Nat} (h : φ r = some r') : SR P DefsR φ (Instr.takeDeferred r) (Instr.takeDeferred r') := by
  refine .getObj h fun o o' ho => ?_
  cases ho with
  | @defs l l' hd =>
    show SR P DefsR φ (setObj r (.deferred none) >>= fun _ => pure l) (setObj r' (.deferred none) >>= fun _ => pure l')
    exact SR.bindEq (sr_setObj h .defsNone) fun φ2 _ he => .pure (hd.mono he)
  | _ => exact .halt
theorem leave_sound {fn : Func} {R : Ending → World → Prop} {tmps : Array Value} {r : Option Nat} : ∀ (ds ds' : List Deferred) (h h' : AHeap) (φ : Phi) (w : World), DefsR φ ds ds' → leaveE P ds h = some h' → HR w0 base φ h w →
    (∀ φ' w', Ext φ φ' → HR w0 base φ' h' w' → ∃ v, (results fn tmps).run P w' = .ok v w' ∧ R (.returned v) w') → LeavesInM (Fr r) 0 P fn tmps R ds' .returning w
  | [], [], h, h', φ, w, _, hr, hh, hq => by
    rw [leaveE] at hr
    injection hr with hr
    subst hr
    exact hq φ w (Ext.refl _) hh
  | [], _ :: _, _, _, _, _, hd, _, _, _ => by cases hd
  | _ :: _, [], _, _, _, _, hd, _, _, _ => by cases hd
  | ⟨t, a⟩ :: ds, d' :: ds', h, h', φ, w, hd, hr, hh, hq => by
    cases hd with
    | cons hd hds =>
      cases t with
      | collected rr =>
        rw [leaveE] at hr
        cases h1 : arun P (Instr.takeDeferred rr) h with
        | none => rw [h1] at hr; cases hr
        | some z =>
          obtain ⟨l, h2⟩ := z
          rw [h1] at hr
          cases l with
          | cons _ _ => cases hr
          | nil =>
            have ht := hd.target
            generalize hdt : d'.target = t' at ht
            cases ht with
            | @collected _ rr' hrr =>
              obtain ⟨φ1, l1, w1, e1, hl, hh1, he1⟩ := arun_sound (sr_takeDeferred hrr) hh h1
              cases hl
              refine ⟨by simp, .inl ⟨rr', w1, hdt, e1, ?_⟩⟩
              exact leave_sound ds ds' h2 h' φ1 w1 (hds.mono he1) hr hh1 fun φ2 w2 he2 => hq φ2 w2 (he1.trans he2)
      | _ => rw [leaveE] at hr <;> first | cases hr | (intro r; simp)

theorem actR_start {φ : Phi} {args args' : Array Value} (h : AsR φ args args') {n : Nat} (hn : args.size ≤ n) : ActR φ n ⟨T.ofList args.toList, []⟩ { tmps := args' ++ Array.replicate (n - args'.size) undef, defers := [] } := by
  have hs := h.1
  refine ⟨by simp; omega, fun i => ?_, .nil⟩
  show VR φ (((T.ofList args.toList).get i).getD undef) _
  rw [T.get_ofList, Array.getD_eq_getD_getElem?, Array.getElem?_append]
  have e1 : args.toList[i]? = args[i]? := by simp
  rw [e1]
  by_cases hi : i < args'.size
  · rw [if_pos hi]
    have hi' : i < args.size := by omega
    rw [Array.getElem?_eq_getElem hi', Array.getElem?_eq_getElem hi]
    exact h.2 i _ _ (Array.getElem?_eq_getElem hi') (Array.getElem?_eq_getElem hi)
  · rw [if_neg hi, Array.getElem?_eq_none (by omega : args.size ≤ i)]
    rw [Array.getElem?_replicate]
    split <;> exact vr_undef
theorem actR_round {φ : Phi} {args args' : Array Value} (h : AsR φ args args') : ActR φ args.size ⟨T.ofList args.toList, []⟩ { tmps := args', defers := [] } := by
  have := actR_start h (Nat.le_refl args.size)
  rw [show args.size - args'.size = 0 from by rw [h.1]; omega] at this
  simpa using this

theorem env_bodied {ev : OpEv} {rv : RegEv} : ∀ d, EnvB P (envE P ev rv d)
  | 0, _, _, _, _, h => by cases h
  | d + 1, f, args, h, x, hr => by
    simp only [envE] at hr
    cases hf : P.funcs[f]? with
    | none => rw [hf] at hr; cases hr
    | some fn =>
      rw [hf] at hr
      cases hk : okFn fn with
      | false => simp [hk] at hr
      | true =>
        unfold okFn at hk
        cases hb : fn.body with
        | none => rw [hb] at hk; cases hk
        | some c =>
          rw [hb] at hk
          simp only [Bool.and_eq_true] at hk
          exact ⟨fn, hf, by rw [hb]; rfl, by simpa using hk.1⟩
theorem env_sound {ev : OpEv} {rv : RegEv} (hop : ∀ e, EnvS P w0 base e → EnvB P e → OpS P w0 base ev e) (hrg : ∀ e, EnvS P w0 base e → EnvB P e → RegS P w0 base rv e) : ∀ d, EnvS P w0 base (envE P ev rv d)
  | 0 => ⟨fun _ _ _ _ _ _ _ _ h => (by cases h), fun _ _ _ _ _ _ _ _ _ _ _ _ _ h => (by cases h)⟩
  | d + 1 => by
    have hE := env_sound hop hrg d
    have hB := env_bodied (P := P) (ev := ev) (rv := rv) d
    have code := fun {r r' : Option Nat} {n : Nat} => code_sound (r := r) (r' := r') (n := n) hE hB (hop _ hE hB) (hrg _ hE hB)
    constructor
    · intro f args h v h' φ args' w hr hh ha
      have hbod := env_bodied (P := P) (ev := ev) (rv := rv) (d + 1) f args h _ hr
      simp only [envE] at hr
      cases hf : P.funcs[f]? with
      | none => rw [hf] at hr; cases hr
      | some fn =>
        rw [hf] at hr
        simp only at hr
        cases hk : okFn fn && Nat.ble args.size fn.ntmps with
        | false => rw [hk] at hr; cases hr
        | true =>
          rw [hk] at hr
          simp only at hr
          simp only [Bool.and_eq_true] at hk
          obtain ⟨hok, hsz⟩ := hk
          have hsz : args.size ≤ fn.ntmps := Nat.le_of_ble_eq_true hsz
          unfold okFn at hok
          cases hb : fn.body with
          | none => rw [hb] at hok; cases hok
          | some c =>
            rw [hb] at hok hr
            simp only [Bool.and_eq_true] at hok
            simp only at hr
            cases hc : codeE P ev rv (envE P ev rv d) fn.ntmps none c ⟨T.ofList args.toList, []⟩ h with
            | none => rw [hc] at hr; cases hr
            | some z =>
              obtain ⟨x, a1, h1⟩ := z
              rw [hc] at hr
              have fin : (match leaveE P a1.defers h1 with
                | some h2 => match arun P (resS (tmpOf a1) fn.results.toList) h2 with
                  | some (vs, h3) => some (packR vs, h3)
                  | none => none
                | none => none) = some (v, h') → ∀ φ1 act1 w1, Ext φ φ1 → ActR φ1 fn.ntmps a1 act1 → HR w0 base φ1 h1 w1 → LeavesInM Fence.wide 0 P fn act1.tmps (CallPost w0 base φ v h') act1.defers .returning w1 := by
                intro hr φ1 act1 w1 he1 ha1 hh1
                cases hl : leaveE P a1.defers h1 with
                | none => rw [hl] at hr; cases hr
                | some h2 =>
                  rw [hl] at hr
                  simp only at hr
                  cases hres : arun P (resS (tmpOf a1) fn.results.toList) h2 with
                  | none => rw [hres] at hr; cases hr
                  | some z3 =>
                    obtain ⟨vs, h3⟩ := z3
                    rw [hres] at hr
                    simp only at hr
                    cases hr
                    refine leave_sound (r := none) a1.defers act1.defers h1 h2 φ1 w1 ha1.defers hl hh1 fun φ2 w2 he2 hh2 => ?_
                    have hsr : SR P (fun φ a b => VR φ (packR a) b) φ2 (resS (tmpOf a1) fn.results.toList) (results fn act1.tmps) := by
                      rw [results_eq]
                      have h1 := SR.bind' (R' := fun φ a b => VR φ (packR a) b) (f := fun vs => pure vs) (g := fun vs => pure (packR vs)) (sr_resS (P := P) (φ := φ2) (ρ := tmpOf a1) fn.results.toList fun i => (ha1.tmp i).mono he2) fun φ3 a b _ hab => .pure (packR_r hab)
                      rw [bind_pure] at h1
                      exact h1
                    obtain ⟨φ3, u, w3, e3, hu, hh3, he3⟩ := arun_sound hsr hh2 hres
                    obtain rfl := still_results fn act1.tmps w2 u w3 e3
                    exact ⟨u, e3, u, φ3, rfl, hu, hh3, he1.trans (he2.trans he3)⟩
              cases x with
              | exit i => cases hr
              | normal => exact callsIn_of_wp_marks hf hb trivial (code c _ _ .normal a1 h1 φ w _ _ hc hok.2 (.inl ⟨rfl, rfl⟩) (actR_start ha hsz) hh fun φ1 act1 w1 he1 ha1 hh1 => fin hr φ1 act1 w1 he1 ha1 hh1)
              | ret => exact callsIn_of_wp_marks hf hb trivial (code c _ _ .ret a1 h1 φ w _ _ hc hok.2 (.inl ⟨rfl, rfl⟩) (actR_start ha hsz) hh fun φ1 act1 w1 he1 ha1 hh1 => fin hr φ1 act1 w1 he1 ha1 hh1)
    · intro l tmps x y h v h' φ l' f tmps' w r hr hh hl ht
      simp only [envE] at hr
      cases hk : codeOk tmps.size x && codeOk tmps.size y with
      | false => rw [hk] at hr; cases hr
      | true =>
        rw [hk] at hr
        simp only at hr
        simp only [Bool.and_eq_true] at hk
        refine roundIn_of_wpIn trivial ?_
        cases hc : codeE P ev rv (envE P ev rv d) tmps.size (some l) x ⟨T.ofList tmps.toList, []⟩ h with
        | none => rw [hc] at hr; cases hr
        | some z =>
          obtain ⟨x1, a1, h1⟩ := z
          rw [hc] at hr
          cases x1 with
          | exit i => cases hr
          | ret => cases hr
          | normal =>
            simp only at hr
            refine code x _ _ .normal a1 h1 φ w _ _ hc hk.1 (.inr ⟨l, l', rfl, rfl, hl⟩) (actR_round ht) hh fun φ1 act1 w1 he1 ha1 hh1 => ?_
            cases hb : arun P (Instr.beginRound l) h1 with
            | none => rw [hb] at hr; cases hr
            | some z2 =>
              obtain ⟨u2, h2⟩ := z2
              rw [hb] at hr
              simp only at hr
              obtain ⟨φ2, _, w2, e2, _, hh2, he2⟩ := arun_sound (sr_beginRound (he1 _ _ hl)) hh1 hb
              refine ⟨w2, e2, ?_⟩
              cases hy : codeE P ev rv (envE P ev rv d) tmps.size (some l) y a1 h2 with
              | none => rw [hy] at hr; cases hr
              | some z3 =>
                obtain ⟨x3, a3, h3⟩ := z3
                rw [hy] at hr
                refine code y _ _ x3 a3 h3 φ2 w2 _ _ hy hk.2 (.inr ⟨l, l', rfl, rfl, he2 _ _ (he1 _ _ hl)⟩) (ha1.mono he2) hh2 fun φ3 act3 w3 he3 ha3 hh3 => ?_
                have hl3 := he3 _ _ (he2 _ _ (he1 _ _ hl))
                have fin : ∀ j, arun P (Instr.endRound l j) h3 = some (v, h') → ∃ u w', (Instr.endRound l' j).run P w3 = .ok u w' ∧ CallPost w0 base φ v h' (.returned u) w' := by
                  intro j hj
                  obtain ⟨φ4, u4, w4, e4, hu4, hh4, he4⟩ := arun_sound (sr_endRound hl3 j) hh3 hj
                  exact ⟨u4, w4, e4, u4, φ4, rfl, hu4, hh4, he1.trans (he2.trans (he3.trans he4))⟩
                cases x3 with
                | normal => exact fin _ hr
                | ret => exact fin _ hr
                | exit i => exact fin _ hr
end
end
end Go.Ab
