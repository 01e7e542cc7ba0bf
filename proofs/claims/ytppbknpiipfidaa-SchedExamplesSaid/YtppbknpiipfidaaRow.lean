/- A slice of ints that came in, as the row's shell hands it on, read as a list of numbers. -/
import Derived.Test.YtppbknpiipfidaaBase
import Derived.ProofKit
namespace Go.Proofs.Ytppbknpiipfidaa
open Go.RowKit

def IsRow (k : IntKind) (w : World) (a : Option Addr) (len cap : Nat) (zs : List Int) : Prop :=
  (a = none ∧ len = 0 ∧ cap = 0 ∧ zs = []) ∨
  ∃ x, a = some x ∧ len ≤ cap ∧ cap ≤ maxLen ∧ zs.length = cap ∧ (∀ i, i < zs.length → w.cell? (x.add i) = some (.int k (zs.getD i 0))) ∧ ∀ n ∈ zs, (Lit.int k n).wf = true

theorem isRow_len {k : IntKind} {w : World} {a : Option Addr} {len cap : Nat} {zs : List Int} (h : IsRow k w a len cap zs) : len = (zs.take len).length ∧ len ≤ maxLen := by
  rcases h with ⟨rfl, rfl, rfl, rfl⟩ | ⟨x, rfl, hl, hm, hz, _, _⟩
  · simp
  · rw [List.length_take]; omega
theorem isRow_wf {k : IntKind} {w : World} {a : Option Addr} {len cap : Nat} {zs : List Int} (h : IsRow k w a len cap zs) : ∀ n ∈ zs.take len, (Lit.int k n).wf = true := by
  rcases h with ⟨rfl, rfl, rfl, rfl⟩ | ⟨x, rfl, hl, hm, hz, _, hw⟩
  · simp
  · exact fun n hn => hw n (List.mem_of_mem_take hn)
theorem isRow_ints {w : World} {a : Option Addr} {len cap : Nat} {zs : List Int} (h : IsRow .i64 w a len cap zs) : Ints w w.heap.size a (zs.take len) := by
  rcases h with ⟨rfl, rfl, rfl, rfl⟩ | ⟨x, rfl, hl, hm, hz, hc, _⟩
  · exact Ints.nil_ _ _ _
  · intro h0
    have h0' : 0 < zs.length := by rw [List.length_take] at h0; omega
    obtain ⟨b, o, spot⟩ := x
    have hc0 := hc 0 h0'
    have hspot : spot = none := by simpa [Addr.add] using World.cell?_spot hc0
    subst hspot
    refine ⟨b, o, rfl, World.block_lt_of_cell? w _ hc0, fun j hj => ?_⟩
    have hj' : j < zs.length ∧ j < len := by rw [List.length_take] at hj; omega
    have := hc j hj'.1
    rw [show (zs.take len).getD j 0 = zs.getD j 0 by simp [List.getD_eq_getElem?_getD, hj'.2], ← this]
    unfold Addr.add
    by_cases h0 : j = 0 <;> simp [h0]
end Go.Proofs.Ytppbknpiipfidaa
