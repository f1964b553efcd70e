/- A part of the proofs about laws of the page tree (see the text that bears the law): a small language of steps, its rules, and what the functions of the program return. -/
import Derived.Test.YtjbihdcdamchnaaVD
set_option linter.all false
set_option linter.unusedVariables false
set_option linter.unusedSimpArgs false
namespace Go.V

theorem Addr.add_none (b off n : Nat) : (⟨b, off, none⟩ : Addr).add n = ⟨b, off + n, none⟩ := by
  unfold Addr.add; split <;> simp_all

theorem cellsAt_one {w : World} {b o : Nat} {vs : List Value} (h : CellsAt w b o vs) (i : Nat) (hi : i < vs.length) : CellsAt w b (o + i) [vs[i]] := by
  intro j hj
  have : j = 0 := by simpa using hj
  subst this
  exact h i hi
theorem cellsAt_part {w : World} {b o : Nat} {vs : List Value} (h : CellsAt w b o vs) (off n : Nat) (hn : off + n ≤ vs.length) : CellsAt w b (o + off) ((vs.drop off).take n) := by
  intro j hj
  have hj' : j < n ∧ off + j < vs.length := by simp at hj; omega
  have := h (off + j) hj'.2
  rw [Nat.add_assoc]
  rw [this]
  simp

section loads
variable {P : Program} {w : World}
theorem run_load_cell {a : Addr} {v : Value} (h : w.cell? a = some v) : (load a).run P w = .ok v w := by rw [run_load]; simp [h]
theorem run_loadCellsFrom {b o : Nat} : ∀ (vs : List Value) (i : Nat) (acc : Array Value), CellsAt w b (o + i) vs →
    (loadCellsFrom ⟨b, o, none⟩ i vs.length acc).run P w = .ok (acc ++ vs.toArray) w
  | [], i, acc, _ => by simp [loadCellsFrom]
  | v :: vs, i, acc, h => by
    have h0 : w.cell? ⟨b, o + i, none⟩ = some v := by have := h 0 (by simp); simpa using this
    have h1 : CellsAt w b (o + (i + 1)) vs := fun j hj => by
      have := h (j + 1) (by simpa using hj)
      simp only [List.getElem_cons_succ] at this
      rw [← this]; congr 2; omega
    simp only [List.length_cons, loadCellsFrom, Sem.run_bind, Addr.add_none, run_load_cell h0, Result.andThen_ok]
    rw [run_loadCellsFrom vs (i + 1) (acc.push v) h1]
    simp
theorem run_loadCells {b o : Nat} {vs : List Value} (h : CellsAt w b o vs) : (loadCells ⟨b, o, none⟩ vs.length).run P w = .ok vs.toArray w := by
  unfold loadCells
  rw [run_loadCellsFrom vs 0 #[] (by simpa using h)]
  simp

def aggT (P : Program) (t : TypeId) : Option Bool :=
  match P.underlying t with
  | some (.struct _) => some true
  | some (.array _ _) => some true
  | some _ => some false
  | none => none
def szT (P : Program) (t : TypeId) : Option Nat := (P.info? t).map (·.size)

theorem run_isAgg {t : TypeId} {b : Bool} (h : aggT P t = some b) (w : World) : (isAgg t).run P w = .ok b w := by
  unfold aggT at h
  split at h <;> simp at h <;> subst h <;> simp_all [isAgg, run_underlying]
theorem run_sizeOf' {t : TypeId} {n : Nat} (h : szT P t = some n) (w : World) : (sizeOf t).run P w = .ok n w := by
  simp only [szT, Option.map_eq_some_iff] at h
  obtain ⟨i, h1, h2⟩ := h
  simp [sizeOf, typeInfo, h1, h2]

/-- what is loaded -/
theorem run_loadVar {t : TypeId} {b o : Nat} {vs : List Value} {agg : Bool} (ha : aggT P t = some agg) (hs : szT P t = some vs.length) (h : CellsAt w b o vs)
    (h1 : agg = false → vs.length = 1) : (loadVar t ⟨b, o, none⟩).run P w = .ok (if agg then .agg vs.toArray else vs.headD Go.undef) w := by
  unfold loadVar
  simp only [Sem.run_bind, run_isAgg ha, Result.andThen_ok]
  cases agg with
  | true => simp [run_sizeOf' hs, run_loadCells h]
  | false =>
    match vs, h1 rfl with
    | [v], _ =>
      have h0 : w.cell? ⟨b, o, none⟩ = some v := by have := h 0 (by simp); simpa using this
      simp [run_load_cell h0]
end loads

/-- the value of cells that read so -/
def valOf (agg : Bool) (vs : List Value) : Value := if agg then .agg vs.toArray else vs.headD Go.undef
theorem rd_valOf_pv {ρ : Rho} {I : Nat → Prop} {w : World} {vs : List Value} {p : PV} (h : RC I w vs p) : RD ρ I w (valOf (isAggP p) vs) (.pv p) := by
  by_cases hp : isAggP p = true
  · cases p <;> simp [isAggP] at hp
    exact rd_agg.2 ⟨vs, by simp [valOf, isAggP], h⟩
  · have hp : isAggP p = false := by simpa using hp
    rw [rd_pv hp, hp]
    have := h.len
    have hn : p.nc = 1 := by cases p <;> simp [isAggP] at hp <;> rfl
    match vs, this.trans hn with
    | [v], _ => exact h

section ops
variable {P : Program} {S : Store} {o : Oper} {E : Env} {c : D → Prop}

theorem ok_idx {T e : TypeId} {x i : Operand} {x' i' : Opd} {sz : Nat} (hop : o.op = .indexAddr T x i) (hT : P.underlying T = some (.slice e)) (hs : szT P e = some sz)
    (hx : dOpd x = some x') (hi : dOpd i = some i') (h : stepF P S (.idx sz x' i') E c) : ∃ d, OpOK P S o E d ∧ c d := by
  simp only [stepF] at h
  split at h
  · rename_i xs k n e1 e2
    obtain ⟨hn0, hn, hsz, hc⟩ := h
    refine ⟨_, opOK_pure fun ρ I w ac hst he => ?_, hc⟩
    have g1 := dOpd_sound hx fun t ht => he t (slots_mem (by simp [hop, Op.operands, ht]))
    have g2 := dOpd_sound hi fun t ht => he t (slots_mem (by simp [hop, Op.operands, ht]))
    rw [e1] at g1
    rw [e2, rd_int] at g2
    rcases rd_sl g1 with ⟨rfl, _⟩ | ⟨b, off, cap, sz', vs, hv, h1, h2, h3, h4, h5, h6⟩
    · simp at hn
    · have hl := h4 n.toNat hn
      have := (h6 n.toNat hn).len
      rw [hl, hsz] at this
      subst this
      refine ⟨.pointer (some ⟨b, off + n.toNat * sz', none⟩), ?_, (rd_pv rfl).2 (.con b _ (vs n.toNat) _ h3 (h5 _ hn) (h6 _ hn))⟩
      have hlt : n < (xs.length : Int) := by omega
      simp [execOp, hop, Instr.indexAt, g2, hv, asIntOf, run_underlying hT, hn0, hlt, run_sizeOf' hs, Addr.add_none]
  · rename_i o' m k n e1 e2
    obtain ⟨⟨hn0, hn, ob, hob, hsz⟩, hc⟩ := h
    refine ⟨_, opOK_pure fun ρ I w ac hst he => ?_, hc⟩
    have g1 := dOpd_sound hx fun t ht => he t (slots_mem (by simp [hop, Op.operands, ht]))
    have g2 := dOpd_sound hi fun t ht => he t (slots_mem (by simp [hop, Op.operands, ht]))
    rw [e1, rd_own] at g1
    rw [e2, rd_int] at g2
    obtain ⟨b, sz', cap, cs, E', h1, hv, h2, h3, h4, h5⟩ := g1
    obtain ⟨b', sz'', h6, h7, _⟩ := hst.obs o' ob hob
    rw [h1] at h6
    simp at h6
    obtain ⟨rfl, rfl⟩ := h6
    have : sz' = sz := by rw [h7, hsz]
    subst this
    refine ⟨.pointer (some ⟨b, n.toNat * sz', none⟩), ?_, rd_ptr.2 ⟨b, sz', h1, rfl⟩⟩
    have hlt : n < (m : Int) := by omega
    simp [execOp, hop, Instr.indexAt, g2, hv, asIntOf, run_underlying hT, hn0, hlt, run_sizeOf' hs, Addr.add_none]
  · exact h.elim

theorem ok_aidx {T e : TypeId} {len : Nat} {x i : Operand} {x' i' : Opd} {sz : Nat} (hop : o.op = .indexAddr T x i) (hT : P.underlying T = some (.array len e)) (hs : szT P e = some sz)
    (hx : dOpd x = some x') (hi : dOpd i = some i') (h : stepF P S (.aidx len sz x' i') E c) : ∃ d, OpOK P S o E d ∧ c d := by
  simp only [stepF] at h
  split at h
  · rename_i cs k n e1 e2
    obtain ⟨⟨hn0, hn, hsz⟩, hl, hc⟩ := h
    subst hsz
    refine ⟨_, opOK_pure fun ρ I w ac hst he => ?_, hc⟩
    have g1 := dOpd_sound hx fun t ht => he t (slots_mem (by simp [hop, Op.operands, ht]))
    have g2 := dOpd_sound hi fun t ht => he t (slots_mem (by simp [hop, Op.operands, ht]))
    rw [e1] at g1
    rw [e2, rd_int] at g2
    obtain ⟨b, off, vs, hv, h1, h2, h3⟩ := rd_con g1
    obtain ⟨h4, h5⟩ := rc_agg h3
    have hl' : n.toNat < vs.length := by omega
    refine ⟨.pointer (some ⟨b, off + n.toNat, none⟩), ?_, (rd_pv rfl).2 (.con b _ [vs[n.toNat]] _ h1 (cellsAt_one h2 _ hl') (h5 _ hl' hl))⟩
    simp [execOp, hop, Instr.indexAt, g2, hv, asIntOf, Instr.sureAddr, run_underlying hT, hn0, hn, run_sizeOf' hs, Addr.add_none]
  · rename_i o' a b' k n e1 e2
    obtain ⟨⟨hn0, hn⟩, hc⟩ := h
    refine ⟨_, opOK_pure fun ρ I w ac hst he => ?_, hc⟩
    have g1 := dOpd_sound hx fun t ht => he t (slots_mem (by simp [hop, Op.operands, ht]))
    have g2 := dOpd_sound hi fun t ht => he t (slots_mem (by simp [hop, Op.operands, ht]))
    rw [e1, rd_ptr] at g1
    rw [e2, rd_int] at g2
    obtain ⟨b, sz', h1, hv⟩ := g1
    refine ⟨.pointer (some ⟨b, a * sz' + (b' + n.toNat * sz), none⟩), ?_, rd_ptr.2 ⟨b, sz', h1, rfl⟩⟩
    simp [execOp, hop, Instr.indexAt, g2, hv, asIntOf, Instr.sureAddr, run_underlying hT, hn0, hn, run_sizeOf' hs, Addr.add_none, Nat.add_assoc]
  · exact h.elim

theorem rc_fld {I : Nat → Prop} {w : World} {vs : List Value} {cs : List PV} {off sz : Nat} {agg : Bool} {c : PV → Prop} (hr : RC I w vs (.agg cs)) (hsz : agg = false → sz = 1) (h : fldP off sz agg cs c) :
    ∃ p, c p ∧ off + sz ≤ vs.length ∧ RC I w ((vs.drop off).take sz) p ∧ ((vs.drop off).take sz).length = sz ∧ (agg = isAggP p ∨ agg = false) := by
  obtain ⟨h1, h2⟩ := rc_agg hr
  unfold fldP at h
  cases agg with
  | true =>
    simp only [if_true] at h
    refine ⟨_, h.2, by omega, .agg _ _ (by simp; omega) fun i hi hi' => ?_, by simp; omega, .inl rfl⟩
    have := h2 (off + i) (by simp at hi; omega) (by simp at hi'; omega)
    simpa using this
  | false =>
    simp only [Bool.false_eq_true, if_false] at h
    obtain ⟨ho, hc⟩ := h
    have := hsz rfl
    subst this
    have hv : off < vs.length := by omega
    have he : (vs.drop off).take 1 = [vs[off]] := by rw [List.drop_eq_getElem_cons hv]; rfl
    refine ⟨_, hc, by omega, by rw [he]; exact h2 off hv ho, by rw [he]; rfl, .inr rfl⟩

theorem ok_fld {T : TypeId} {fs : Array Field} {f : Nat} {fd : Field} {x : Operand} {x' : Opd} {sz : Nat} {agg : Bool} (hop : o.op = .fieldAddr T x f) (hT : P.underlying T = some (.struct fs))
    (hf : fs[f]? = some fd) (hs : szT P fd.type = some sz) (h0 : sz ≠ 0) (h1 : agg = false → sz = 1) (hx : dOpd x = some x') (h : stepF P S (.fld fd.offset sz agg x') E c) : ∃ d, OpOK P S o E d ∧ c d := by
  simp only [stepF] at h
  split at h
  · rename_i cs e1
    -- the value depends on nothing but cs
    have key : ∃ p, c (.pv (.con p)) ∧ ∀ (I : Nat → Prop) (w : World) (vs : List Value), RC I w vs (.agg cs) → fd.offset + sz ≤ vs.length ∧ RC I w ((vs.drop fd.offset).take sz) p := by
      unfold fldP at h
      cases agg with
      | true =>
        simp only [if_true] at h
        refine ⟨_, h.2, fun I w vs hr => ?_⟩
        obtain ⟨h3, h4⟩ := rc_agg hr
        refine ⟨by omega, .agg _ _ (by simp; omega) fun i hi hi' => ?_⟩
        have := h4 (fd.offset + i) (by simp at hi; omega) (by simp at hi'; omega)
        simpa using this
      | false =>
        simp only [Bool.false_eq_true, if_false] at h
        obtain ⟨ho, hc⟩ := h
        have := h1 rfl
        subst this
        refine ⟨_, hc, fun I w vs hr => ?_⟩
        obtain ⟨h3, h4⟩ := rc_agg hr
        have hv : fd.offset < vs.length := by omega
        have he : (vs.drop fd.offset).take 1 = [vs[fd.offset]] := by rw [List.drop_eq_getElem_cons hv]; rfl
        exact ⟨by omega, by rw [he]; exact h4 _ hv ho⟩
    obtain ⟨p, hc, hk⟩ := key
    refine ⟨_, opOK_pure fun ρ I w ac hst he => ?_, hc⟩
    have g1 := dOpd_sound hx fun t ht => he t (slots_mem (by simp [hop, Op.operands, ht]))
    rw [e1] at g1
    obtain ⟨b, off, vs, hv, h2, h3, h4⟩ := rd_con g1
    obtain ⟨h5, h6⟩ := hk I w vs h4
    refine ⟨.pointer (some ⟨b, off + fd.offset, none⟩), ?_, (rd_pv rfl).2 (.con b _ _ _ h2 (cellsAt_part h3 _ _ h5) h6)⟩
    simp [execOp, hop, Instr.fieldAt, run_underlying hT, hf, hv, Instr.sureAddr, fieldPlace, run_sizeOf' hs, h0, Addr.add_none]
  · rename_i o' i j e1
    refine ⟨_, opOK_pure fun ρ I w ac hst he => ?_, h⟩
    have g1 := dOpd_sound hx fun t ht => he t (slots_mem (by simp [hop, Op.operands, ht]))
    rw [e1, rd_ptr] at g1
    obtain ⟨b, sz', h2, hv⟩ := g1
    refine ⟨.pointer (some ⟨b, i * sz' + (j + fd.offset), none⟩), ?_, rd_ptr.2 ⟨b, sz', h2, rfl⟩⟩
    simp [execOp, hop, Instr.fieldAt, run_underlying hT, hf, hv, Instr.sureAddr, fieldPlace, run_sizeOf' hs, h0, Addr.add_none, Nat.add_assoc]
  · exact h.elim

theorem ok_ext {x : Operand} {i : Nat} {x' : Opd} (hop : o.op = .extract x i) (hx : dOpd x = some x') (h : stepF P S (.ext x' i) E c) : ∃ d, OpOK P S o E d ∧ c d := by
  simp only [stepF] at h
  split at h
  · rename_i ds e1
    obtain ⟨hi, hc⟩ := h
    refine ⟨_, opOK_pure fun ρ I w ac hst he => ?_, hc⟩
    have g1 := dOpd_sound hx fun t ht => he t (slots_mem (by simp [hop, Op.operands, ht]))
    rw [e1] at g1
    simp only [RD] at g1
    obtain ⟨vs, hv, h1, h2⟩ := g1
    have hi' : i < vs.length := by omega
    refine ⟨vs[i], by simp [execOp, hop, Instr.extract, hv, hi'], ?_⟩
    have := h2 i hi' hi
    generalize ds[i] = d at *
    cases d <;> first | exact this | (simp [RS, R1, R0] at this)
  · exact h.elim

theorem headD_drop (vs : List Value) (j : Nat) (hj : j < vs.length) : ((vs.drop j).take 1) = [vs[j]] := by
  rw [List.drop_eq_getElem_cons hj]; rfl

/-- the cells of an element, and a part of them -/
theorem rdc_cells {ρ : Rho} {I : Nat → Prop} {w : World} {vs : List Value} {d : D} {cs : List D} (h : RDc ρ I w vs d) (hcs : cellsD d = some cs) :
    vs.length = cs.length ∧ ∀ i (h : i < vs.length) (h' : i < cs.length), R1 ρ I w vs[i] cs[i] := by
  cases d with
  | agg ds => simp [cellsD] at hcs; subst hcs; exact h
  | pv p =>
    cases p with
    | agg ps =>
      simp [cellsD] at hcs; subst hcs
      obtain ⟨h1, h2⟩ := rc_agg h
      refine ⟨by simpa using h1, fun i hi hi' => ?_⟩
      have := h2 i hi (by simpa using hi')
      simpa [R1, R0] using this
    | tup ps => simp [cellsD] at hcs
    | _ =>
      simp [cellsD] at hcs; subst hcs
      have hl := RC.len h
      simp only [PV.nc] at hl
      match vs, hl with
      | [v], _ => exact ⟨rfl, fun i hi hi' => by
          have : i = 0 := by simpa using hi
          subst this
          exact h⟩
  | tup ds => simp [cellsD] at hcs
  | undef => simp [cellsD] at hcs
  | any => simp [cellsD] at hcs
  | _ =>
    simp [cellsD] at hcs; subst hcs
    obtain ⟨v, rfl, h⟩ := h
    exact ⟨rfl, fun i hi hi' => by
      have : i = 0 := by simpa using hi
      subst this
      exact h⟩

theorem rd_of_r1' {ρ : Rho} {I : Nat → Prop} {w : World} {v : Value} {d : D} (h : R1 ρ I w v d) (hd : isOne d = true) : RD ρ I w v d := by
  cases d with
  | pv p => cases p <;> first | (simp [isOne] at hd; done) | exact h
  | agg cs => simp [isOne] at hd
  | tup ds => simp [isOne] at hd
  | _ => exact h

theorem fldD_key {d0 : D} {cs : List D} {j sz : Nat} {agg : Bool} (hcs : cellsD d0 = some cs) (h1 : agg = false → sz = 1) (h : fldD j sz agg cs c) :
    ∃ d, c d ∧ ∀ (ρ : Rho) (I : Nat → Prop) (w : World) (vs : List Value), RDc ρ I w vs d0 → vs.length = cs.length ∧ j + sz ≤ vs.length ∧ RD ρ I w (valOf agg ((vs.drop j).take sz)) d := by
  unfold fldD at h
  cases agg with
  | true =>
    simp only [if_true] at h
    refine ⟨_, h.2, fun ρ I w vs hr => ?_⟩
    obtain ⟨h2, h3⟩ := rdc_cells hr hcs
    refine ⟨h2, by omega, rd_dagg.2 ⟨(vs.drop j).take sz, by simp [valOf], by simp; omega, fun i hi hi' => ?_⟩⟩
    have := h3 (j + i) (by simp at hi; omega) (by simp at hi'; omega)
    simpa using this
  | false =>
    simp only [Bool.false_eq_true, if_false] at h
    obtain ⟨hj, ho, hc⟩ := h
    have := h1 rfl
    subst this
    refine ⟨_, hc, fun ρ I w vs hr => ?_⟩
    obtain ⟨h2, h3⟩ := rdc_cells hr hcs
    have hv : j < vs.length := by omega
    refine ⟨h2, by omega, ?_⟩
    rw [headD_drop vs j hv]
    exact rd_of_r1' (h3 j hv hj) ho

theorem ok_part {T : TypeId} {fs : Array Field} {f : Nat} {fd : Field} {x : Operand} {x' : Opd} {sz : Nat} {agg : Bool} (hop : o.op = .field T x f) (hT : P.underlying T = some (.struct fs))
    (hf : fs[f]? = some fd) (hs : szT P fd.type = some sz) (ha : aggT P fd.type = some agg) (h1 : agg = false → sz = 1) (hx : dOpd x = some x') (h : stepF P S (.part fd.offset sz agg x') E c) : ∃ d, OpOK P S o E d ∧ c d := by
  simp only [stepF] at h
  have main : ∀ (w : World) (ac : Act) (vs : List Value), ac.eval x = .agg vs.toArray → fd.offset + sz ≤ vs.length →
      (execOp ac.eval o).run P w = .ok (.value (valOf agg ((vs.drop fd.offset).take sz))) w := fun w ac vs hv hl => by
    cases agg with
    | true =>
      simp [execOp, hop, Instr.field, run_underlying hT, hf, hv, asAgg, part, run_isAgg ha, run_sizeOf' hs, valOf]
    | false =>
      have := h1 rfl
      subst this
      have hl' : fd.offset < vs.length := by omega
      simp [execOp, hop, Instr.field, run_underlying hT, hf, hv, asAgg, part, run_isAgg ha, valOf, headD_drop vs _ hl', hl']
  split at h
  · rename_i cs e1
    obtain ⟨d, hc, hk⟩ := fldD_key (agg := agg) (d0 := .pv (.agg cs)) (by simp [cellsD]) h1 h
    refine ⟨d, opOK_pure fun ρ I w ac hst he => ?_, hc⟩
    have g1 := dOpd_sound hx fun t ht => he t (slots_mem (by simp [hop, Op.operands, ht]))
    rw [e1] at g1
    obtain ⟨vs, hv, h3⟩ := rd_agg.1 g1
    obtain ⟨_, h4, h5⟩ := hk ρ I w vs h3
    exact ⟨_, main w ac vs hv h4, h5⟩
  · rename_i cs e1
    obtain ⟨d, hc, hk⟩ := fldD_key (agg := agg) (d0 := .agg cs) (by simp [cellsD]) h1 h
    refine ⟨d, opOK_pure fun ρ I w ac hst he => ?_, hc⟩
    have g1 := dOpd_sound hx fun t ht => he t (slots_mem (by simp [hop, Op.operands, ht]))
    rw [e1] at g1
    obtain ⟨vs, hv, h3, h3'⟩ := rd_dagg.1 g1
    obtain ⟨_, h4, h5⟩ := hk ρ I w vs ⟨h3, h3'⟩
    exact ⟨_, main w ac vs hv h4, h5⟩
  · exact h.elim

theorem ok_load {T : TypeId} {x : Operand} {x' : Opd} {sz : Nat} {agg : Bool} (hop : o.op = .load T x) (hs : szT P T = some sz) (ha : aggT P T = some agg) (h1 : agg = false → sz = 1)
    (hx : dOpd x = some x') (h : stepF P S (.load sz agg x') E c) : ∃ d, OpOK P S o E d ∧ c d := by
  simp only [stepF] at h
  split at h
  · rename_i p e1
    obtain ⟨⟨hsz, hag⟩, hc⟩ := h
    refine ⟨_, opOK_pure fun ρ I w ac hst he => ?_, hc⟩
    have g1 := dOpd_sound hx fun t ht => he t (slots_mem (by simp [hop, Op.operands, ht]))
    rw [e1] at g1
    obtain ⟨b, off, vs, hv, h2, h3, h4⟩ := rd_con g1
    have hl := h4.len
    have hs' : szT P T = some vs.length := by rw [hs, hl, hsz]
    refine ⟨valOf (isAggP p) vs, ?_, rd_valOf_pv h4⟩
    have := run_loadVar (P := P) ha hs' h3 (fun e => by rw [hl, hsz]; exact h1 e)
    simp [execOp, hop, Instr.loadAt, hv, Instr.sureAddr, this, valOf, hag]
  · rename_i o' i j e1
    split at h
    · rename_i ob hob
      obtain ⟨hi, h⟩ := h
      split at h
      · rename_i cs hcs
        obtain ⟨hcl, h⟩ := h
        obtain ⟨d, hc, hk⟩ := fldD_key (agg := agg) hcs h1 h
        refine ⟨d, opOK_pure fun ρ I w ac hst he => ?_, hc⟩
        have g1 := dOpd_sound hx fun t ht => he t (slots_mem (by simp [hop, Op.operands, ht]))
        rw [e1, rd_ptr] at g1
        obtain ⟨b, sz', h2, hv⟩ := g1
        obtain ⟨b', sz'', h3, h4, cells, h5, h6, h7⟩ := hst.obs o' ob hob
        rw [h2] at h3
        simp at h3
        obtain ⟨rfl, rfl⟩ := h3
        have h8 := h7 i hi
        obtain ⟨h9, h10, h11⟩ := hk ρ I w _ h8
        have hlen : ((cells.toList.drop (i * sz')).take sz').length = cs.length := h9
        have hcell : CellsAt w b (i * sz') ((cells.toList.drop (i * sz')).take sz') := by
          intro q hq
          have hq' : q < sz' ∧ i * sz' + q < cells.size := by simp at hq; omega
          simp only [World.cell?, h5, Option.isSome_none, Bool.false_eq_true, if_false]
          rw [Array.getElem?_eq_getElem hq'.2]
          simp
        have hp := cellsAt_part hcell j sz h10
        have hs' : szT P T = some (((((cells.toList.drop (i * sz')).take sz').drop j).take sz)).length := by rw [hs]; congr 1; simp at h10 ⊢; omega
        refine ⟨_, ?_, h11⟩
        have := run_loadVar (P := P) ha hs' hp (fun e => by rw [hs] at hs'; simp only [Option.some.injEq] at hs'; rw [← hs']; exact h1 e)
        simp only [execOp, hop, Instr.loadAt, hv, Instr.sureAddr, Sem.run_bind, Sem.run_pure, Result.andThen_ok, this, valOf]
      · exact h.elim
    · exact h.elim
  · exact h.elim

end ops
end Go.V
