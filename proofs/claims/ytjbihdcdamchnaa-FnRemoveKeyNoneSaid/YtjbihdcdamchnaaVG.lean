/- A part of the proofs about laws of the page tree (see the text that bears the law): a small language of steps, its rules, and what the functions of the program return. -/
import Derived.Test.YtjbihdcdamchnaaVF
set_option linter.all false
set_option linter.unusedVariables false
set_option linter.unusedSimpArgs false
namespace Go.V

/-! filling cells -/
theorem foldl_set (vs : List Value) : ∀ (k off : Nat) (cs : Array Value), off + k + vs.length ≤ cs.size →
    ((vs.zipIdx k).foldl (fun (cs : Array Value) (p : Value × Nat) => cs.setIfInBounds (off + p.2) p.1) cs).toList = cs.toList.take (off + k) ++ vs ++ cs.toList.drop (off + k + vs.length) := by
  induction vs with
  | nil => intro k off cs h; simp
  | cons v vs ih =>
    intro k off cs h
    simp only [List.length_cons] at h
    simp only [List.zipIdx_cons, List.foldl_cons]
    rw [ih (k + 1) off _ (by simp; omega)]
    have hk : off + k < cs.toList.length := by simp; omega
    have e1 : (cs.setIfInBounds (off + k) v).toList = cs.toList.set (off + k) v := by simp
    rw [e1]
    have e2 : (cs.toList.set (off + k) v).take (off + (k + 1)) = cs.toList.take (off + k) ++ [v] := by
      rw [show off + (k + 1) = (off + k) + 1 from by omega, List.take_succ_eq_append_getElem (by simpa using hk)]
      simp [List.take_set_of_le]
    have e3 : (cs.toList.set (off + k) v).drop (off + (k + 1) + vs.length) = cs.toList.drop (off + k + (v :: vs).length) := by
      rw [List.drop_set_of_lt (by omega)]
      congr 1
      simp; omega
    rw [e2, e3]
    simp

theorem fill_step {place : Nat → Option (Nat × Nat)} {cells : Array Value} {i : Nat} {v : Value} {rest : List (Nat × Value)} {off sz : Nat} (hp : place i = some (off, sz)) (h1 : v.cells.size = sz) (h2 : off + sz ≤ cells.size) :
    Instr.fill place cells ((i, v) :: rest) = Instr.fill place (cells.toList.take off ++ v.cells.toList ++ cells.toList.drop (off + sz)).toArray rest := by
  rw [Instr.fill]
  simp only [hp, h1, ne_eq, not_true_eq_false, decide_false, Bool.false_or, decide_eq_true_eq]
  rw [if_neg (by omega)]
  congr 1
  have := foldl_set v.cells.toList 0 off cells (by simp; omega)
  apply Array.ext'
  rw [← Array.foldl_toList]
  have e : v.cells.zipIdx.toList = v.cells.toList.zipIdx 0 := by simp
  rw [e]
  have hh : (v.cells.toList.length) = sz := by simpa using h1
  rw [hh] at this
  simpa using this

section build
variable {ρ : Rho} {I : Nat → Prop} {w : World}
def R1s (ρ : Rho) (I : Nat → Prop) (w : World) (vs : List Value) (ds : List D) : Prop := vs.length = ds.length ∧ ∀ i (h : i < vs.length) (h' : i < ds.length), R1 ρ I w vs[i] ds[i]

theorem rd_cells {v : Value} {d : D} {cs : List D} (h : RD ρ I w v d) (hcs : cellsD d = some cs) : R1s ρ I w v.cells.toList cs := by
  cases d with
  | agg ds =>
    simp [cellsD] at hcs; subst hcs
    obtain ⟨vs, rfl, h1, h2⟩ := rd_dagg.1 h
    exact ⟨by simpa [Value.cells] using h1, by simpa [Value.cells] using h2⟩
  | pv p =>
    cases p with
    | agg ps =>
      obtain ⟨vs, rfl, h1⟩ := rd_agg.1 h
      have := rdc_cells (ρ := ρ) (d := .pv (.agg ps)) h1 hcs
      simpa [Value.cells, R1s] using this
    | tup ps => simp [cellsD] at hcs
    | _ =>
      have h' := (rd_pv rfl).1 h
      have := rdc_cells (ρ := ρ) (d := .pv _) h' hcs
      rw [single_of_rc h' rfl]
      exact this
  | tup ds => simp [cellsD] at hcs
  | undef => simp [cellsD] at hcs
  | any => simp [cellsD] at hcs
  | nils =>
    obtain ⟨a, rfl⟩ := rd_nils.1 h
    exact rdc_cells (ρ := ρ) (d := .nils) ⟨_, rfl, h⟩ hcs
  | ptr o i j =>
    obtain ⟨b, sz, h1, rfl⟩ := rd_ptr.1 h
    exact rdc_cells (ρ := ρ) (d := .ptr o i j) ⟨_, rfl, h⟩ hcs
  | own o n =>
    obtain ⟨b, sz, cap, cs', E', h1, rfl, h2⟩ := rd_own.1 h
    exact rdc_cells (ρ := ρ) (d := .own o n) ⟨_, rfl, h⟩ hcs
  | sub o off n cap =>
    obtain ⟨b, sz, cs', E', h1, rfl, h2⟩ := rd_sub.1 h
    exact rdc_cells (ρ := ρ) (d := .sub o off n cap) ⟨_, rfl, h⟩ hcs
  | clo f caps =>
    have h' : R1 ρ I w v (.clo f caps) := h
    obtain ⟨vs, rfl, h1⟩ := id h'
    exact rdc_cells (ρ := ρ) (d := .clo f caps) ⟨_, rfl, h'⟩ hcs

theorem R1s.app {a b : List Value} {c d : List D} (h : R1s ρ I w a c) (k : R1s ρ I w b d) : R1s ρ I w (a ++ b) (c ++ d) := by
  refine ⟨by simp [h.1, k.1], fun i hi hi' => ?_⟩
  simp only [List.getElem_append]
  have := h.1
  by_cases hlt : i < a.length
  · simp only [hlt, dif_pos, show i < c.length from by omega]
    exact h.2 i hlt (by omega)
  · simp only [hlt, show ¬ i < c.length from by omega, dif_neg, not_false_eq_true]
    have e : i - c.length = i - a.length := by omega
    simp only [e]
    exact k.2 _ (by simp at hi; omega) (by simp at hi'; omega)
theorem R1s.take {a : List Value} {c : List D} (h : R1s ρ I w a c) (n : Nat) : R1s ρ I w (a.take n) (c.take n) :=
  ⟨by simp [h.1], fun i hi hi' => by simp only [List.getElem_take]; exact h.2 i (by simp at hi; omega) (by simp at hi'; omega)⟩
theorem R1s.drop {a : List Value} {c : List D} (h : R1s ρ I w a c) (n : Nat) : R1s ρ I w (a.drop n) (c.drop n) :=
  ⟨by simp [h.1], fun i hi hi' => by simp only [List.getElem_drop]; exact h.2 _ (by simp at hi; omega) (by simp at hi'; omega)⟩
theorem R1s.mono {I' : Nat → Prop} {w' : World} (hI : ∀ b, I b → I' b) (hk : Keeps ρ I w w') {a : List Value} {c : List D} (h : R1s ρ I w a c) : R1s ρ I' w' a c :=
  ⟨h.1, fun i hi hi' => R1.mono hI hk (h.2 i hi hi')⟩

/-- the places of a build's parts -/
def partsOf (fs : List (Nat × Nat)) : List (Nat × Operand) → Option (List (Nat × Nat × Opd))
  | [] => some []
  | (i, x) :: rest => match fs[i]?, dOpd x, partsOf fs rest with
    | some (off, sz), some y, some r => some ((off, sz, y) :: r)
    | _, _, _ => none

theorem fill_sound {E : Env} {ac : Act} {fs : List (Nat × Nat)} : ∀ {parts : List (Nat × Operand)} {parts' : List (Nat × Nat × Opd)} {cells : Array Value} {ds ds' : List D},
    partsOf fs parts = some parts' → R1s ρ I w cells.toList ds → fillD E ds parts' = some ds' →
    (∀ i x t, (i, x) ∈ parts → x = .tmp t → RD ρ I w (ac.tmps.getD t Go.undef) (E t)) →
    ∃ cells', Instr.fill (fun i => fs[i]?) cells (parts.map fun p => (p.1, ac.eval p.2)) = some cells' ∧ R1s ρ I w cells'.toList ds'
  | [], parts', cells, ds, ds', h, hr, hf, _ => by
    simp [partsOf] at h; subst h
    simp [fillD] at hf; subst hf
    exact ⟨cells, by simp [Instr.fill], hr⟩
  | (i, x) :: parts, parts', cells, ds, ds', h, hr, hf, he => by
    simp only [partsOf] at h
    split at h <;> simp at h
    rename_i off sz y r h1 h2 h3
    subst h
    simp only [fillD] at hf
    split at hf
    · rename_i cs hcs
      split at hf
      · rename_i hc
        obtain ⟨hc1, hc2⟩ := hc
        have g := dOpd_sound (ρ := ρ) (I := I) (w := w) (a := ac) (E := E) h2 fun t ht => he i x t (by simp) ht
        have g2 := rd_cells g hcs
        have hsz : (ac.eval x).cells.size = sz := by have := g2.1; simp at this; omega
        have hlen := hr.1
        have hds : ds.length = cells.size := by simpa using hlen.symm
        have R := ((hr.take off).app g2).app (hr.drop (off + sz))
        obtain ⟨cells', e1, e2⟩ := fill_sound (ac := ac) (cells := (cells.toList.take off ++ (ac.eval x).cells.toList ++ cells.toList.drop (off + sz)).toArray)
          (ds := setAt ds off cs) h3 (by simp only [setAt, hc1]; exact R) hf (fun i' x' t hm => he i' x' t (by simp [hm]))
        refine ⟨cells', ?_, e2⟩
        rw [List.map_cons, fill_step h1 hsz (by omega)]
        exact e1
      · simp at hf
    · simp at hf
end build

def fieldPls (P : Program) : List Field → Option (List (Nat × Nat))
  | [] => some []
  | f :: fs => match szT P f.type, fieldPls P fs with
    | some n, some r => some ((f.offset, n) :: r)
    | _, _ => none
theorem run_fieldPls {P : Program} {w : World} : ∀ {fs : List Field} {r : List (Nat × Nat)}, fieldPls P fs = some r →
    (fs.mapM (m := Sem) fun (f : Field) => do pure (f.offset, ← sizeOf f.type)).run P w = .ok r w
  | [], r, h => by simp [fieldPls] at h; subst h; rfl
  | f :: fs, r, h => by
    simp only [fieldPls] at h
    split at h <;> simp at h
    rename_i n r' h1 h2
    subst h
    have := run_fieldPls (w := w) h2
    simp only [List.mapM_cons, Sem.run_bind, run_sizeOf' h1, Result.andThen_ok, Sem.run_pure, this]

def zeroT (P : Program) (t : TypeId) : Option (List D) :=
  match (P.info? t).bind (·.zero) with
  | some v => dOfs v.cells.toList
  | none => none
theorem run_zero {P : Program} {t : TypeId} {ds : List D} (h : zeroT P t = some ds) : ∃ v, dOfs v.cells.toList = some ds ∧ ∀ w, (zeroValue t).run P w = .ok v w := by
  unfold zeroT at h
  split at h
  · rename_i v hv
    obtain ⟨i, h1, h2⟩ := Option.bind_eq_some_iff.1 hv
    exact ⟨v, h, fun w => by simp [zeroValue, typeInfo, h1, h2]⟩
  · simp at h

section ops
variable {P : Program} {S : Store} {o : Oper} {E : Env} {c : D → Prop}

theorem ok_build {T : TypeId} {parts : Array (Nat × Operand)} {fs : Array Field} {pls : List (Nat × Nat)} {parts' : List (Nat × Nat × Opd)} {zero : List D} (hop : o.op = .build T parts)
    (hT : P.underlying T = some (.struct fs)) (hz : zeroT P T = some zero) (hf : fieldPls P fs.toList = some pls) (hp : partsOf pls parts.toList = some parts')
    (h : stepF P S (.build zero parts') E c) : ∃ d, OpOK P S o E d ∧ c d := by
  simp only [stepF] at h
  split at h
  · rename_i cs hcs
    obtain ⟨zv, hz1, hz2⟩ := run_zero hz
    refine ⟨_, opOK_pure fun ρ I w ac hst he => ?_, h⟩
    have hzr : R1s ρ I w zv.cells.toList zero := dOfs_sound hz1
    obtain ⟨cells', e1, e2⟩ := fill_sound (ac := ac) hp hzr hcs (fun i x t hm hx => he t (slots_mem (by
      subst hx
      simp only [hop, Op.operands]
      exact (by simpa using ⟨i, by simpa using hm⟩))))
    refine ⟨.agg cells', ?_, rd_dagg.2 ⟨cells'.toList, by simp, e2.1, e2.2⟩⟩
    have hm := run_fieldPls (w := w) hf
    have hm' : (fs.mapM (m := Sem) fun (f : Field) => do pure (f.offset, ← sizeOf f.type)).run P w = .ok pls.toArray w := by
      rw [Array.mapM_eq_mapM_toList, Sem.run_map, hm]; rfl
    have e3 : (fun (x : Nat) => pls.toArray[x]?) = fun (i : Nat) => pls[i]? := by funext i; simp
    simp only [execOp, hop, Instr.build, Sem.run_bind, hz2, Result.andThen_ok, run_underlying hT, hm', Sem.run_pure]
    have e4 : (parts.map fun x => (x.1, ac.eval x.2)).toList = parts.toList.map fun p => (p.1, ac.eval p.2) := by simp
    rw [e3, e4, e1]
    rfl
  · exact h.elim

/-- the places of a literal's parts: 0, 1, 2 .. -/
def litParts (k : Nat) : List (Nat × Operand) → Option (List (Nat × Opd))
  | [] => some []
  | (i, x) :: rest => match dOpd x, litParts (k + 1) rest with
    | some y, some r => if i = k then some ((i, y) :: r) else none
    | _, _ => none

theorem rd_pv_cells {ρ : Rho} {I : Nat → Prop} {w : World} {v : Value} {p : PV} (h : RD ρ I w v (.pv p)) (hp : ∀ ps, p ≠ .tup ps) : RC I w v.cells.toList p := by
  cases p with
  | agg ps => obtain ⟨vs, rfl, h1⟩ := rd_agg.1 h; simpa [Value.cells] using h1
  | tup ps => exact absurd rfl (hp ps)
  | _ =>
    have h' := (rd_pv rfl).1 h
    rw [single_of_rc h' rfl]; exact h'

theorem toPV_tup {d : D} {ps : List PV} (h : toPV d = some (.tup ps)) : False := by
  cases d with
  | pv q => cases q <;> simp [toPV, toPV1, toPV0] at h
  | agg cs => simp [toPV] at h
  | clo f caps => simp [toPV, toPV1] at h
  | _ => simp [toPV, toPV1, toPV0] at h

theorem lit_fill {ρ : Rho} {I : Nat → Prop} {w : World} {ac : Act} {sz n : Nat} : ∀ {parts : List (Nat × Operand)} {parts' : List (Nat × Opd)} {k : Nat} {cells : Array Value} {xs : List PV},
    litParts k parts = some parts' → litD E sz n parts' = some xs → (∀ x ∈ xs, x.nc = sz) → cells.size = (k + parts.length) * sz →
    (∀ i x t, (i, x) ∈ parts → x = .tmp t → RD ρ I w (ac.tmps.getD t Go.undef) (E t)) →
    ∃ vs : List (List Value), Instr.fill (fun i => some (i * sz, sz)) cells (parts.map fun p => (p.1, ac.eval p.2)) = some (cells.toList.take (k * sz) ++ vs.flatten).toArray ∧
      vs.length = xs.length ∧ (∀ i (h : i < vs.length), vs[i].length = sz) ∧ ∀ i (h : i < vs.length) (h' : i < xs.length), RC I w vs[i] xs[i]
  | [], parts', k, cells, xs, h, hd, hs, hc, _ => by
    simp [litParts] at h; subst h
    simp [litD] at hd; subst hd
    refine ⟨[], ?_, rfl, by simp, by simp⟩
    simp only [List.map_nil, Instr.fill, List.flatten_nil, List.append_nil]
    rw [List.take_of_length_le (by simp; simp at hc; omega)]
  | (i, x) :: parts, parts', k, cells, xs, h, hd, hs, hc, he => by
    simp only [litParts] at h
    split at h <;> simp at h
    rename_i y r h1 h2
    obtain ⟨rfl, rfl⟩ := h
    simp only [litD] at hd
    split at hd <;> simp at hd
    rename_i p ps h3 h4
    subst hd
    have g := dOpd_sound (ρ := ρ) (I := I) (w := w) (a := ac) (E := E) h1 fun t ht => he i x t (by simp) ht
    have g2 := rd_pv_cells (toPV_sound h3 g) (fun ps hps => by subst hps; exact toPV_tup h3)
    have hsz : (ac.eval x).cells.size = sz := by have := g2.len; rw [hs p (by simp)] at this; simpa using this
    have hmul : (i + (parts.length + 1)) * sz = i * sz + sz + parts.length * sz := by
      rw [Nat.add_mul, Nat.add_mul]; omega
    simp only [List.length_cons] at hc
    rw [hmul] at hc
    have hz : cells.size = i * sz + sz + parts.length * sz := hc
    obtain ⟨vs, e1, e2, e3, e4⟩ := lit_fill (ac := ac) (sz := sz) (n := n) (cells := (cells.toList.take (i * sz) ++ (ac.eval x).cells.toList ++ cells.toList.drop (i * sz + sz)).toArray)
      h2 h4 (fun q hq => hs q (by simp [hq])) (by
        simp only [List.size_toArray, List.length_append, List.length_take, List.length_drop, Array.length_toList, hsz]
        rw [Nat.add_mul, Nat.add_mul]; omega) (fun i' x' t hm => he i' x' t (by simp [hm]))
    refine ⟨(ac.eval x).cells.toList :: vs, ?_, by simp [e2], ?_, ?_⟩
    · rw [List.map_cons, fill_step (off := i * sz) (sz := sz) rfl hsz (by omega), e1]
      congr 2
      simp only [List.flatten_cons, ← List.append_assoc]
      congr 1
      have hl : (cells.toList.take (i * sz)).length = i * sz := by simp; omega
      have hl2 : (cells.toList.take (i * sz) ++ (ac.eval x).cells.toList).length = (i + 1) * sz := by
        rw [List.length_append, hl, Nat.add_mul]; simp; omega
      rw [List.take_append_of_le_length (by omega), List.take_of_length_le (by omega)]
    · intro j hj
      cases j with
      | zero => simpa using hsz
      | succ j => exact e3 j (by simpa using hj)
    · intro j hj hj'
      cases j with
      | zero => exact g2
      | succ j => exact e4 j (by simpa using hj) (by simpa using hj')

theorem flatten_at {sz : Nat} : ∀ (vs : List (List Value)) (i : Nat) (h : i < vs.length), (∀ i (h : i < vs.length), vs[i].length = sz) → ∀ j, j < sz → vs.flatten[i * sz + j]? = vs[i][j]?
  | v :: vs, 0, _, hs, j, hj => by
    have := hs 0 (by simp)
    simp only [List.getElem_cons_zero] at this
    simp [List.getElem?_append_left (show j < v.length by omega)]
  | v :: vs, i + 1, h, hs, j, hj => by
    have h0 := hs 0 (by simp)
    simp only [List.getElem_cons_zero] at h0
    have ih := flatten_at vs i (by simpa using h) (fun i hi => by have := hs (i + 1) (by simpa using hi); simpa using this) j hj
    rw [List.flatten_cons, List.getElem?_append_right (by rw [h0, Nat.add_mul]; omega)]
    rw [show (i + 1) * sz + j - v.length = i * sz + j by rw [h0, Nat.add_mul]; omega]
    rw [ih]
    simp

theorem grow_alloc (I : Nat → Prop) (w : World) (ob : Obj) : Grow I w (fun b => I b ∨ b = w.heap.size) (w.alloc ob) where
  os := rfl
  tape := rfl
  output := rfl
  size := by simp
  block := fun k hk => by simp only [World.alloc]; rw [Array.getElem?_push]; simp [Nat.ne_of_lt hk]
  imono := fun b h => .inl h
  inew := fun b h => by
    rcases h with h | h
    · exact .inl h
    · subst h; exact .inr ⟨Nat.le_refl _, by simp⟩

theorem ok_lit {T e : TypeId} {sz n : Nat} {parts : Array (Nat × Operand)} {parts' : List (Nat × Opd)} {zero : List D} (hop : o.op = .buildSlice T n parts)
    (hT : P.underlying T = some (.slice e)) (hs : szT P e = some sz) (hz : zeroT P e = some zero) (hp : litParts 0 parts.toList = some parts') (hn : parts.size = n) (hsz : sz ≠ 0) (h24 : n * sz ≤ 2 ^ 24)
    (h : stepF P S (.lit e sz n zero parts') E c) : ∃ d, OpOK P S o E d ∧ c d := by
  simp only [stepF] at h
  obtain ⟨zv, hz1, hz2⟩ := run_zero hz
  have h24' : ¬ 2 ^ 24 < n * sz := by omega
  split at h
  · rename_i h0
    subst h0
    have hp0 : parts = #[] := Array.eq_empty_of_size_eq_zero hn
    subst hp0
    refine ⟨_, opOK_run fun ρ I w ac hst he => ⟨.slice (some ⟨w.heap.size, 0, none⟩) 0 0, _, w.alloc (.cells #[] e), ?_, grow_alloc I w _, rd_nils.2 ⟨_, rfl⟩⟩, h⟩
    have er : (Array.range 0).map (fun _ => (default : Value)) = #[] := by simp
    simp [execOp, hop, Instr.buildSlice, run_underlying hT, run_sizeOf' hs, Instr.fill, newRow, er]
  · rename_i h0
    split at h
    · rename_i xs hxs
      obtain ⟨h1, h2, h3⟩ := h
      refine ⟨_, opOK_run fun ρ I w ac hst he => ?_, h3⟩
      have hz0 : n * sz ≠ 0 := Nat.mul_ne_zero h0 hsz
      have hnm : n ≤ n * sz := Nat.le_mul_of_pos_right _ (Nat.pos_of_ne_zero hsz)
      obtain ⟨vs, e1, e2, e3, e4⟩ := lit_fill (ρ := ρ) (I := I) (w := w) (ac := ac) (sz := sz) (n := n) (k := 0) (cells := (Array.range (n * sz)).map (zv.cells[· % zv.cells.size]!)) hp hxs h1
        (by simp [hn]) (fun i x t hm hx => he t (slots_mem (by
          subst hx
          simp only [hop, Op.operands]
          exact (by simpa using ⟨i, by simpa using hm⟩))))
      have hlx : xs.length = n := by
        have : ∀ {ps : List (Nat × Opd)} {xs : List PV}, litD E sz n ps = some xs → xs.length = ps.length := fun {ps} => by
          induction ps with
          | nil => intro xs hh; simp [litD] at hh; subst hh; rfl
          | cons p ps ih => intro xs hh; obtain ⟨i, x⟩ := p; simp only [litD] at hh; split at hh <;> simp at hh; rename_i q qs _ hq; subst hh; simp [ih hq]
        have h5 : ∀ {k : Nat} {ps : List (Nat × Operand)} {qs : List (Nat × Opd)}, litParts k ps = some qs → qs.length = ps.length := fun {k ps} => by
          induction ps generalizing k with
          | nil => intro qs hh; simp [litParts] at hh; subst hh; rfl
          | cons p ps ih => intro qs hh; obtain ⟨i, x⟩ := p; simp only [litParts] at hh; split at hh <;> simp at hh; rename_i q qs' _ hq; obtain ⟨_, rfl⟩ := hh; simp [ih hq]
        rw [this hxs, h5 hp]; simpa using hn
      have hg := grow_alloc I w (.cells (vs.flatten).toArray e)
      refine ⟨.slice (some ⟨w.heap.size, 0, none⟩) n n, _, w.alloc (.cells (vs.flatten).toArray e), ?_, hg, (rd_pv rfl).2 ?_⟩
      · simp only [Nat.zero_mul, List.take_zero, List.nil_append] at e1
        have e5 : (parts.map fun x => (x.1, ac.eval x.2)).toList = parts.toList.map fun p => (p.1, ac.eval p.2) := by simp
        simp only [execOp, hop, Instr.buildSlice, Sem.run_bind, run_underlying hT, run_sizeOf' hs, Result.andThen_ok, h24', if_false, gt_iff_lt, hz0, hz2, Sem.run_pure, e5, e1, newRow, run_newObj]
        rfl
      · refine .sl xs _ 0 n sz n (fun i => vs.getD i []) hlx.symm (Nat.le_refl _) ?_ (.inr rfl) (fun i hi => ?_) (fun i hi => ?_) (fun i hi => ?_)
        · unfold maxLen; omega
        · have hi' : i < vs.length := by omega
          simpa [hi'] using e3 i hi'
        · have hi' : i < vs.length := by omega
          intro j hj
          have hj' : j < sz := by have := e3 i hi'; simp [hi'] at hj; omega
          have := flatten_at vs i hi' e3 j hj'
          simp only [World.cell?_alloc_new, Nat.zero_add]
          simp [hi', this]
        · have hi' : i < vs.length := by omega
          have := (e4 i hi' hi).mono hg.imono (fun b hb => hg.block b (hst.old b hb))
          simpa [hi'] using this
    · exact h.elim

end ops
end Go.V
