/- The evaluator, part 22. -/
import Derived.Test.YtbjadgggpkbjmaaGreatEv21
/- An evaluator of the model's code over an abstract heap: a call with arguments, in a world whose blocks stand for an abstract heap. -/
namespace Go.Ab
open Go.RowKit
noncomputable section
section
variable {P : Program} {xt : XTab}
def pairK : Value → AHeap → Option (Value × AHeap) := fun v h => some (v, h)
theorem start_den_at {β : Type} {k0 : Value → AHeap → Option β} {m : Nat} {f : FuncId} {args : List Value} {h : AHeap} (hok : okAt P f args.length = true) :
    (envK P xt (m + 1)).call f args h k0 = ofK args 0 .nil fun t => den P xt k0 (.at f m (.code []) t [] h []) := by
  rw [call_den hok]
  rfl
theorem call_at (hty : typesOk P = true) (hxt : XOk P xt) (hm : P.follows .mixedOrders = true) {d : Nat} {f : FuncId} {args : Array Value} {h h' : AHeap} {v : Value}
    (hr : (envK P xt d).call f args.toList h pairK = some (v, h')) {w0 w : World} {base : Nat} {φ : Phi} {us : Array Value} (H : HR w0 base φ h w) (ha : AsR φ args us) :
    Calls P f us w (fun e w' => ∃ u φ', e = .returned u ∧ VR φ' v u ∧ HR w0 base φ' h' w' ∧ Ext φ φ') := by
  obtain ⟨v1, h1, h2, h3⟩ := (envK_ref d).call _ _ _ _ _ hr
  unfold pairK at h3
  cases h3
  have hE := env_sound (P := P) (w0 := w0) (base := base) (ev := opW P xt) (rv := regE P xt) (fun e hE hB => op_sound (good_of hty) (sized_of hty) hxt hE hB) (fun e hE hB => reg_sound hm (op_sound (good_of hty) (sized_of hty) hxt hE hB)) d
  have h4 := hE.call f args h v h' φ us w (by simpa using h2) H ha
  refine Calls.mono (callsIn_wide.1 h4) ?_
  rintro e w' ⟨u, φ', rfl, hu, hh, he⟩
  exact ⟨u, φ', rfl, hu, hh, he⟩
/-- What comes to pass beside the abstract heap. -/
theorem HR.aside {w0 w w' : World} {base : Nat} {φ : Phi} {h : AHeap} (H : HR w0 base φ h w) (hb : Below w.heap.size w w') : HR w0 base φ h w' where
  blocks b o hg ho := by
    have hB := H.blocks b o hg ho
    unfold BlockR at *
    cases o with
    | cells e n x ro kin t =>
      obtain ⟨c, arr, h1, h2, h3⟩ := hB
      exact ⟨c, arr, h1, (hb.block c (H.lo b c h1).2).trans h2, h3⟩
    | obj o =>
      obtain ⟨c, o', h1, h2, h3⟩ := hB
      exact ⟨c, o', h1, (hb.block c (H.lo b c h1).2).trans h2, h3⟩
    | dead => trivial
  fresh := H.fresh
  lo b c hc := ⟨(H.lo b c hc).1, Nat.lt_of_lt_of_le (H.lo b c hc).2 hb.size⟩
  apart := H.apart
  below := H.below.trans (hb.mono (Nat.le_trans H.base_le H.below.size))
  base_le := H.base_le
  ghost := H.ghost
end
end
end Go.Ab
