/- A part of the proofs about laws of the page tree (see the text that bears the law): a small language of steps, its rules, and what the functions of the program return. -/
import Derived.Test.YtjbihdcdamchnaaVKS
import Derived.Laws.Externs
set_option linter.all false
set_option linter.unusedVariables false
set_option linter.unusedSimpArgs false
namespace Go.V

def OvlOK (P : Program) (f : FuncId) : Prop :=
  ∃ (fn : Func) (t u e : TypeId) (sz : Nat), P.funcs[f]? = some fn ∧ (fn.name == "runtime.NumGoroutine") = false ∧ fn.body.isNone = true ∧ Extern.findNext fn = none ∧
    Extern.find fn = some (Extern.SlicesOverlaps.overlaps #[t, t] #[u]) ∧ P.underlying t = some (.slice e) ∧ szT P e = some sz

theorem shape_of_cells {w : World} {b : Nat} {cs : Array Value} {T : TypeId} {fz : Nat × Nat} (h : w.heap[b]? = some (.cells cs T fz)) (hp : 0 < cs.size) : ∃ T k, w.shape? b = some (T, k + 1) := by
  unfold World.shape?
  rw [h]
  exact ⟨T, cs.size - 1, by simp; omega⟩
theorem shape_of_cell {w : World} {a : Addr} {v : Value} (h : w.cell? a = some v) : ∃ T k, w.shape? a.block = some (T, k + 1) := by
  unfold World.cell? at h
  split at h
  · rename_i cs T fz hb
    refine shape_of_cells hb ?_
    simp at h
    have := (Array.getElem?_eq_some_iff.1 h.2).1
    omega
  · cases h

/-- two slices in two blocks, the second one plain -/
theorem run_overlaps {P : Program} (w : World) (tS tR e : TypeId) (ht : P.underlying tS = some (.slice e)) (size : Nat) (hz : ∀ w, (Go.sizeOf e).run P w = .ok size w)
    (a b : Option Addr) (la ca lb cb : Nat) (h : lb = 0 ∨ a = none ∨ la = 0 ∨ ∃ x y, a = some x ∧ b = some y ∧ x.block ≠ y.block ∧ (∃ T k, w.shape? x.block = some (T, k + 1)) ∧ (∃ T k, w.shape? y.block = some (T, k + 1)) ∧ w.frozen? y = false ∧
      ∀ n, w.frozen? { block := y.block, off := n } = false) :
    (Extern.SlicesOverlaps.overlaps #[tS, tS] #[tR] #[.slice a la ca, .slice b lb cb]).run P w = .ok (.bool false) w := by
  change Sem.run P (α := Value) (do
    let .slice elem ← underlying tS | stuck _
    let size ← sizeOf elem
    match a, b with
    | some a, some b =>
      if la = 0 ∨ lb = 0 ∨ size = 0 then pure (Value.bool false)
      else if a.block != b.block && (← frozen a) && (← frozen b) then unsupported .addressObserved
      else do
        if a.block != b.block then do
          noView a; noView b
          if ← mayBeOne a b then return Value.bool ((← choose _) == 1)
        pure (Value.bool (a.block == b.block && a.off < b.off + lb * size && b.off < a.off + la * size))
    | _, _ => pure (Value.bool false)) w = _
  cases a with
  | none => simp [run_underlying ht, hz]
  | some x =>
    cases b with
    | none => simp [run_underlying ht, hz]
    | some y =>
      by_cases h0 : la = 0 ∨ lb = 0 ∨ size = 0
      · simp [run_underlying ht, hz, h0]
      · rcases h with h | h | h | ⟨x', y', h1, h2, hne, ⟨T, k, hsx⟩, ⟨T', k', hsy⟩, hf, hf'⟩
        · exact absurd (.inr (.inl h)) h0
        · cases h
        · exact absurd (.inl h) h0
        · simp at h1 h2
          subst h1 h2
          have hnb : (x.block != y.block) = true := by simpa using hne
          have hnb' : (x.block == y.block) = false := by simpa using hne
          cases hfx : w.frozen? x <;> simp [run_underlying ht, hz, h0, hnb, hnb', frozen, noView, viewAt, mayBeOne, stringish, shape, Sem.run, hsx, hsy, hf, hf', hfx]

section ops
variable {P : Program} {S : Store} {o : Oper} {E : Env} {c : D → Store → Prop}
theorem okX_ovl {f : FuncId} {x y : Operand} {x' y' : Opd} {ats : Array TypeId} (hop : o.op = .call { callee := .value (.func f), args := #[x, y], argTypes := ats }) (hx : dOpd x = some x') (hy : dOpd y = some y') (hf : OvlOK P f)
    (h : match ev E x', ev E y' with
      | .pv (.sl _), .nils => c (.pv (.bool false)) S
      | .pv (.sl xs), .sub oo off n cap => (∃ ob, S[oo]? = some (some ob) ∧ 0 < ob.sz) ∧ (xs.all fun x => decide (0 < x.nc)) = true ∧ c (.pv (.bool false)) S
      | _, _ => False) : OpX P o E S c := by
  intro ρ I w a next Q hs he hn
  have g1 := dOpd_sound (a := a) hx fun t ht => he t (slots_mem (by simp [hop, Op.operands, Call.operands, ht]))
  have g2 := dOpd_sound (a := a) hy fun t ht => he t (slots_mem (by simp [hop, Op.operands, Call.operands, ht]))
  obtain ⟨fn, t, u, e, sz, k1, k2, k3, k4, k5, k6, k7⟩ := hf
  have hz := fun w => run_sizeOf' k7 w
  have fin : ∀ a1 l1 c1 a2 l2 c2, a.eval x = .slice a1 l1 c1 → a.eval y = .slice a2 l2 c2 → (Extern.SlicesOverlaps.overlaps #[t, t] #[u] #[.slice a1 l1 c1, .slice a2 l2 c2]).run P w = .ok (.bool false) w → c (.pv (.bool false)) S → o.wp P a w next Q := fun a1 l1 c1 a2 l2 c2 e1 e2 hr hc => by
    refine wp_value (u := .bool false) ?_ (hn _ _ _ _ _ _ hc hs (rd_bool.2 rfl) (Ext.refl _ _ _ _))
    have hev : a.eval (.func f) = .func (.func f) #[] #[] := rfl
    simp [execOp, hop, resolve, hev, Deferred.ofValue, invoke, run_callFunc_extern k1 k2 k3 k4 k5, e1, e2, hr]
  split at h
  · rename_i xs e1 e2
    rw [e1] at g1
    rw [e2, rd_nils] at g2
    obtain ⟨b, hb⟩ := g2
    obtain ⟨a1, cap, hv, _⟩ := rd_sl' g1
    exact fin _ _ _ _ _ _ hv hb (run_overlaps w t u e k6 sz hz _ _ _ _ _ _ (.inl rfl)) h
  · rename_i xs oo off n cap e1 e2
    obtain ⟨⟨ob, hob, hpos⟩, hall, hc⟩ := h
    rw [e1] at g1
    rw [e2, rd_sub] at g2
    obtain ⟨b, sz', cs, E', hρ, hv2, h1, h2, h3, h4⟩ := g2
    have hnI := hs.apart oo b sz' ob hob hρ
    have hfro : ∀ q, w.frozen? ⟨b, q, none⟩ = false := fun q => by simp [World.frozen?, h3]
    rcases rd_sl g1 with ⟨rfl, a1, cap', hv, _⟩ | ⟨b1, off1, cap1, sz1, vs, hv, g3, g4, g5, g6, g7, g8⟩
    · exact fin _ _ _ _ _ _ hv hv2 (run_overlaps w t u e k6 sz hz _ _ _ _ _ _ (.inr (.inr (.inl rfl)))) hc
    · refine fin _ _ _ _ _ _ hv hv2 (run_overlaps w t u e k6 sz hz _ _ _ _ _ _ ?_) hc
      by_cases hn0 : n = 0
      · exact .inl hn0
      by_cases hx0 : xs.length = 0
      · exact .inr (.inr (.inl hx0))
      refine .inr (.inr (.inr ⟨_, _, rfl, rfl, fun e => hnI (by have e' : b1 = b := e; rw [← e']; exact g5), ?_, ?_, hfro _, hfro⟩))
      · have e3 := (g8 0 (by omega)).len
        have e4 := List.all_eq_true.1 hall _ (List.getElem_mem (show 0 < xs.length by omega))
        simp at e4
        have := g7 0 (by omega) 0 (by omega)
        simp at this
        exact shape_of_cell this
      · obtain ⟨b', sz'', j1, j2, cur, j3, j4, j5⟩ := hs.obs oo ob hob
        rw [hρ] at j1
        simp at j1
        obtain ⟨rfl, rfl⟩ := j1
        refine shape_of_cells h3 ?_
        have : 0 < (off + cap) * sz' := Nat.mul_pos (by omega) (by omega)
        omega
  · exact h.elim
end ops
end Go.V
