/- A part of the proofs about laws of the page tree (see the text that bears the law): a small language of steps, its rules, and what the functions of the program return. -/
import Derived.Test.YtjbihdcdamchnaaVO
import Derived.Below
import Derived.OpenShut
set_option linter.all false
set_option linter.unusedVariables false
set_option linter.unusedSimpArgs false
namespace Go.V
open Go.RowKit
theorem lt_of_cell {w : World} {a : Addr} {v : Value} (h : w.cell? a = some v) : a.block < w.heap.size := by
  unfold World.cell? at h
  by_cases hb : a.block < w.heap.size
  · exact hb
  · rw [Array.getElem?_eq_none (by omega)] at h
    simp at h
theorem rd_true {I : Nat → Prop} {w : World} {u : Value} {b : Bool} (h : RD [] I w u (.pv (.bool b))) : u = .bool b := by
  have h' : RC I w [u] (.bool b) := h
  cases h'; rfl
/-- A law over bytes, in the words of the frame. -/
theorem law_calls {P : Program} {f : FuncId} (h : ∀ bs : List Int, (∀ x ∈ bs, 0 ≤ x ∧ x ≤ 255) → bs.length ≤ maxLen → PCon P f [.sl (bs.map (.int .u8))] (fun p => p = .bool true))
    (a0 : Option Addr) (len cap : Nat) (zs : List Int) (w : World)
    (w0 : (a0 = none ∧ len = 0 ∧ cap = 0 ∧ zs = []) ∨ ∃ x, a0 = some x ∧ len ≤ cap ∧ cap ≤ maxLen ∧ zs.length = cap ∧ (∀ i, i < zs.length → w.cell? (x.add i) = some (.int .u8 (zs.getD i 0))) ∧ ∀ n ∈ zs, (Lit.int .u8 n).wf = true) :
    Calls P f #[.slice a0 len cap] w fun e w' => e = .returned (.bool true) ∧ Below w.heap.size w w' := by
  have fin : ∀ (bs : List Int) (I : Nat → Prop), (∀ x ∈ bs, 0 ≤ x ∧ x ≤ 255) → bs.length ≤ maxLen → (∀ b, I b → b < w.heap.size) → RC I w [.slice a0 len cap] (.sl (bs.map (.int .u8))) →
      Calls P f #[.slice a0 len cap] w fun e w' => e = .returned (.bool true) ∧ Below w.heap.size w w' := fun bs I h1 h2 h3 h4 =>
    (h bs h1 h2 I w [.slice a0 len cap] h3 ⟨h4, trivial⟩).mono fun e w' ⟨u, p, I', e1, e2, e3, e4⟩ => by
      subst e1 e2
      have := rd_true e4
      subst this
      exact ⟨rfl, e3.os, e3.tape, e3.output, e3.size, e3.block⟩
  rcases w0 with ⟨rfl, rfl, rfl, rfl⟩ | ⟨x, rfl, h1, h2, h3, h4, h5⟩
  · exact fin [] (fun _ => False) (by simp) (by simp) (by simp) (.sl0 none 0 (by unfold maxLen; omega))
  · by_cases hl : len = 0
    · subst hl
      exact fin [] (fun _ => False) (by simp) (by simp) (by simp) (.sl0 _ _ h2)
    · obtain ⟨b, off, rfl, hc⟩ := ints_at h4 (by omega)
      refine fin (zs.take len) (fun k => k = b) ?_ ?_ ?_ ?_
      · intro n hn
        have := h5 n (List.mem_of_mem_take hn)
        simp [Lit.wf, IntKind.min, IntKind.max, IntKind.signed, IntKind.bits] at this
        omega
      · simp; omega
      · rintro k rfl
        have := lt_of_cell (hc 0 (by omega))
        exact this
      · refine .sl _ b off cap 1 len (fun i => [.int .u8 (zs.getD i 0)]) (by simp; omega) h1 h2 rfl (fun _ _ => rfl) ?_ ?_
        · intro i hi j hj
          simp at hj hi
          subst hj
          have := hc i (by omega)
          simpa using this
        · intro i hi
          simp at hi
          simp only [List.getElem_map, List.getElem_take, List.getD_eq_getElem?_getD, List.getElem?_eq_getElem (show i < zs.length by omega), Option.getD_some]
          exact .int _ _
end Go.V
