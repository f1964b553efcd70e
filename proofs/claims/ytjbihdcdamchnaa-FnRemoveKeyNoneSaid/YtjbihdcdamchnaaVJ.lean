/- A part of the proofs about laws of the page tree (see the text that bears the law): a small language of steps, its rules, and what the functions of the program return. -/
import Derived.Test.YtjbihdcdamchnaaVI
set_option linter.all false
set_option linter.unusedVariables false
set_option linter.unusedSimpArgs false
namespace Go.V

theorem oneCell_of_r1 {ρ : Rho} {I : Nat → Prop} {w : World} {v : Value} {d : D} (h : R1 ρ I w v d) (h1 : isOne d = true) (h2 : d ≠ .any) (h3 : d ≠ .undef) : v.oneCell' = true := by
  cases d with
  | pv p =>
    have h' : RC I w [v] p := h
    cases p with
    | agg ps => simp [isOne] at h1
    | _ => cases h' <;> rfl
  | nils => obtain ⟨a, rfl⟩ := h; rfl
  | ptr o i j => obtain ⟨b, sz, _, rfl⟩ := h; rfl
  | own o n => obtain ⟨b, sz, cap, cs, E, _, rfl, _⟩ := h; rfl
  | sub o f n c => obtain ⟨b, sz, cs, E, _, rfl, _⟩ := h; rfl
  | clo f caps => obtain ⟨vs, rfl, _⟩ := h; rfl
  | agg cs => simp [isOne] at h1
  | tup ds => simp [isOne] at h1
  | undef => exact absurd rfl h3
  | any => exact absurd rfl h2

/-- a cell that may be stored -/
def isCell : D → Bool
  | .agg _ => false
  | .pv (.agg _) => false
  | .tup _ => false
  | .undef => false
  | .any => false
  | _ => true

theorem cellsD_one {d : D} {cs : List D} (h : cellsD d = some cs) (h1 : isOne d = true) : cs = [d] := by
  cases d with
  | pv p => cases p <;> first | (simp [isOne] at h1; done) | (simp [cellsD] at h; done) | (simp [cellsD] at h; exact h.symm)
  | agg cs => simp [isOne] at h1
  | tup ds => simp [isOne] at h1
  | undef => simp [cellsD] at h
  | any => simp [cellsD] at h
  | _ => simp [cellsD] at h; exact h.symm
theorem isCell_one {d : D} (h : isCell d = true) : isOne d = true ∧ d ≠ .any ∧ d ≠ .undef := by
  cases d with
  | pv p => cases p <;> simp_all [isCell, isOne]
  | _ => simp_all [isCell, isOne]

section ops
variable {P : Program} {S : Store} {o : Oper} {E : Env} {c : D → Store → Prop}

theorem okS_store {T : TypeId} {x y : Operand} {x' y' : Opd} {sz i j oo : Nat} {cs ds : List D} {ob : Ob} (hop : o.op = .store T x y) (hs : szT P T = some sz) (hx : dOpd x = some x') (hy : dOpd y = some y')
    (e1 : ev E x' = .ptr oo i j) (hob : S[oo]? = some (some ob)) (hi : i < ob.xs.length) (hcs : cellsD ob.xs[i] = some cs) (hcl : cs.length = ob.sz)
    (hds : cellsD (ev E y') = some ds) (hdl : ds.length = sz) (hj : j + sz ≤ ob.sz) (hcell : ∀ d ∈ ds, isCell d = true) (h1 : isOne ob.xs[i] = true → isOne (ev E y') = true)
    (h : c .undef (S.set oo (some { ob with xs := ob.xs.set i (if isOne ob.xs[i] then ev E y' else .agg (setAt cs j ds)) }))) : OpX P o E S c := by
  intro ρ I w a next Q hst he hn
  have g1 := dOpd_sound (a := a) hx fun t ht => he t (slots_mem (by simp [hop, Op.operands, ht]))
  have g2 := dOpd_sound (a := a) hy fun t ht => he t (slots_mem (by simp [hop, Op.operands, ht]))
  rw [e1, rd_ptr] at g1
  obtain ⟨b, sz', hρ, hv⟩ := g1
  obtain ⟨b', sz'', h2, h3, cur, h4, h5, h6⟩ := hst.obs oo ob hob
  rw [hρ] at h2
  simp at h2
  obtain ⟨rfl, rfl⟩ := h2
  have g3 := rd_cells g2 hds
  have hvl : (a.eval y).cells.toList.length = sz := by rw [g3.1, hdl]
  have hone : ∀ u ∈ (a.eval y).cells.toList, u.oneCell' = true := fun u hu => by
    obtain ⟨q, hq, rfl⟩ := List.getElem_of_mem hu
    have hq' : q < ds.length := by rw [← g3.1]; exact hq
    have := hcell _ (List.getElem_mem hq')
    have h7 := g3.2 q hq hq'
    obtain ⟨k1, k2, k3⟩ := isCell_one this
    exact oneCell_of_r1 h7 k1 k2 k3
  have hbound : i * sz' + sz' ≤ cur.size := by
    have : (i + 1) * sz' ≤ ob.xs.length * sz' := Nat.mul_le_mul_right _ hi
    rw [Nat.add_mul] at this; omega
  have hstore := run_storeCells_at P b (i * sz' + j) ob.ty (a.eval y).cells.toList 0 cur w h4 (by omega) hone
  simp only [Nat.add_zero] at hstore
  let L' := (cur.toList.take (i * sz' + j) ++ (a.eval y).cells.toList ++ cur.toList.drop (i * sz' + j + (a.eval y).cells.toList.length)).toArray
  have hL : L'.size = cur.size := by simp [L']; simp at hvl; omega
  have hb' : (w.setRow b L').heap[b]? = some (.cells L' ob.ty (0, 0)) := setRow_heap w b cur L' ob.ty (0, 0) h4
  have hoth : ∀ k, k ≠ b → (w.setRow b L').heap[k]? = w.heap[k]? := fun k hk => setRow_other w b k L' hk
  have t := set_tr (ρ := ρ) h4 (hst.apart oo b sz' ob hob hρ) hb' hL hoth
  let ob' : Ob := { ob with xs := ob.xs.set i (if isOne ob.xs[i] then ev E y' else .agg (setAt cs j ds)) }
  have hold := h6 i hi
  have hcl0 := rdc_cells hold hcs
  refine wp_skip' (w' := w.setRow b L') ?_ ?_
  · have hsz2 : (a.eval y).cells.size = sz := by simpa using hvl
    simp [execOp, hop, Instr.storeAt, hv, Instr.sureAddr, storeVar, run_sizeOf' hs, hsz2, hstore, L']
  · refine hn _ _ _ _ _ _ h (set_st (ob' := ob') hst hρ hob rfl rfl h3 h4 hb' hL hoth (by simp) (by simp [ob', hL]; exact h5) ?_) (rd_undef.2 rfl) (set_ext hρ t rfl rfl rfl (by simp) hoth)
    intro q hq
    have hq' : q < ob.xs.length := by simpa [ob'] using hq
    by_cases hqi : q = i
    · subst hqi
      have e2 : (L'.toList.drop (q * sz')).take sz' = ((cur.toList.drop (q * sz')).take sz').take j ++ (a.eval y).cells.toList ++ ((cur.toList.drop (q * sz')).take sz').drop (j + (a.eval y).cells.toList.length) :=
        seg_same (L := cur.toList) rfl (by omega) (by simpa using hbound)
      rw [e2]
      have e3 : ob'.xs[q] = if isOne ob.xs[q] then ev E y' else .agg (setAt cs j ds) := by simp [ob']
      rw [e3]
      have hsegl : ((cur.toList.drop (q * sz')).take sz').length = sz' := by simp; omega
      cases hone' : isOne ob.xs[q] with
      | true =>
        simp only [if_true]
        have hc1 : cs.length = 1 := by rw [cellsD_one hcs hone']; rfl
        have hd1 : ds.length = 1 := by rw [cellsD_one hds (h1 hone')]; rfl
        have hj0 : j = 0 := by omega
        subst hj0
        rw [List.take_zero, List.nil_append, List.drop_of_length_le (by omega), List.append_nil]
        exact (rd_rdc g2 hds).tr t
      | false =>
        simp only [Bool.false_eq_true, if_false]
        have R := ((R1s.take hcl0 j).app g3).app (R1s.drop hcl0 (j + sz))
        have R' : R1s ρ I (w.setRow b L') _ _ := ⟨R.1, fun i hi hi' => R1.tr t (R.2 i hi hi')⟩
        rw [hvl]
        simp only [setAt, hdl]
        exact R'
    · have e2 : (L'.toList.drop (q * sz')).take sz' = (cur.toList.drop (q * sz')).take sz' :=
        seg_other (i := i) (by omega) (by rw [Nat.add_mul]; omega) (by simp; simp at hvl; omega) hqi
      rw [e2]
      have e3 : ob'.xs[q] = ob.xs[q] := by simp [ob', List.getElem_set_ne (fun e => hqi e.symm)]
      rw [e3]
      exact (h6 q hq').tr t

end ops
end Go.V
