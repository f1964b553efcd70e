/- A part of the proofs about laws of the page tree (see the text that bears the law): a small language of steps, its rules, and what the functions of the program return. -/
import Derived.Test.YtjbihdcdamchnaaVE
set_option linter.all false
set_option linter.unusedVariables false
set_option linter.unusedSimpArgs false
namespace Go.V

theorem rd_rho {ρ ρ' : Rho} {I : Nat → Prop} {w : World} {v : Value} {p : PV} (h : RD ρ I w v (ofPV p)) : RD ρ' I w v (ofPV p) := by
  have one : ∀ (v : Value) (p : PV), RS ρ I w v (.pv p) → RS ρ' I w v (.pv p) := fun v p h => by
    cases p <;> exact h
  cases p with
  | tup ps =>
    simp only [ofPV, RD] at h ⊢
    obtain ⟨vs, h1, h2, h3⟩ := h
    refine ⟨vs, h1, h2, fun i hi hi' => ?_⟩
    have := h3 i hi hi'
    simp only [List.getElem_map] at this ⊢
    exact one _ _ this
  | agg ps => exact h
  | _ => exact h
theorem rd_pv_rho {ρ ρ' : Rho} {I : Nat → Prop} {w : World} {v : Value} {p : PV} (h : RD ρ I w v (.pv p)) : RD ρ' I w v (.pv p) := by
  cases p <;> exact h

section topv
variable {ρ : Rho} {I : Nat → Prop} {w : World}
theorem toPV0_sound {v : Value} {d : D} {p : PV} (h : toPV0 d = some p) (hd : R0 ρ I w v d) : RC I w [v] p ∧ isAggP p = false := by
  cases d with
  | pv q => cases q <;> simp [toPV0] at h <;> subst h <;> exact ⟨hd, rfl⟩
  | nils => simp [toPV0] at h; subst h; obtain ⟨a, rfl⟩ := hd; exact ⟨.sl0 a 0 (Nat.zero_le _), rfl⟩
  | _ => simp [toPV0] at h
theorem toPV0s_sound : ∀ {vs : List Value} {ds : List D} {ps : List PV}, toPV0s ds = some ps → vs.length = ds.length →
    (∀ i (h : i < vs.length) (h' : i < ds.length), R0 ρ I w vs[i] ds[i]) → vs.length = ps.length ∧ (∀ i (h : i < vs.length) (h' : i < ps.length), RC I w [vs[i]] ps[i]) ∧ ∀ p ∈ ps, isAggP p = false
  | vs, [], ps, h, hl, _ => by simp [toPV0s] at h; subst h; simp at hl; subst hl; simp
  | v :: vs, d :: ds, ps, h, hl, hr => by
    simp only [toPV0s] at h
    split at h <;> simp at h
    rename_i p ps' h1 h2
    subst h
    obtain ⟨h3, h4, h5⟩ := toPV0s_sound (vs := vs) h2 (by simpa using hl) (fun i hi hi' => by have := hr (i + 1) (by simpa using hi) (by simpa using hi'); simpa using this)
    have h6 := toPV0_sound h1 (hr 0 (by simp) (by simp))
    refine ⟨by simp [h3], fun i hi hi' => ?_, fun q hq => ?_⟩
    · cases i with
      | zero => exact h6.1
      | succ i => exact h4 i (by simpa using hi) (by simpa using hi')
    · rcases List.mem_cons.1 hq with rfl | hq
      · exact h6.2
      · exact h5 q hq
theorem toPV1_sound {v : Value} {d : D} {p : PV} (h : toPV1 d = some p) (hd : R1 ρ I w v d) : RC I w [v] p ∧ isAggP p = false := by
  cases d with
  | clo f caps =>
    simp only [toPV1, Option.map_eq_some_iff] at h
    obtain ⟨ps, h1, rfl⟩ := h
    obtain ⟨vs, rfl, h2, h3⟩ := hd
    obtain ⟨h4, h5, h6⟩ := toPV0s_sound h1 h2 h3
    exact ⟨.clo _ vs ps h4 h5 h6, rfl⟩
  | pv q => exact toPV0_sound (ρ := ρ) (d := .pv q) h hd
  | nils => exact toPV0_sound (ρ := ρ) (d := .nils) h hd
  | _ => simp [toPV1, toPV0] at h
theorem toPV1s_sound : ∀ {vs : List Value} {ds : List D} {ps : List PV}, toPV1s ds = some ps → vs.length = ds.length →
    (∀ i (h : i < vs.length) (h' : i < ds.length), R1 ρ I w vs[i] ds[i]) → vs.length = ps.length ∧ ∀ i (h : i < vs.length) (h' : i < ps.length), RC I w [vs[i]] ps[i]
  | vs, [], ps, h, hl, _ => by simp [toPV1s] at h; subst h; simp at hl; subst hl; simp
  | v :: vs, d :: ds, ps, h, hl, hr => by
    simp only [toPV1s] at h
    split at h <;> simp at h
    rename_i p ps' h1 h2
    subst h
    obtain ⟨h3, h4⟩ := toPV1s_sound (vs := vs) h2 (by simpa using hl) (fun i hi hi' => by have := hr (i + 1) (by simpa using hi) (by simpa using hi'); simpa using this)
    refine ⟨by simp [h3], fun i hi hi' => ?_⟩
    cases i with
    | zero => exact (toPV1_sound h1 (hr 0 (by simp) (by simp))).1
    | succ i => exact h4 i (by simpa using hi) (by simpa using hi')
theorem toPV_sound {v : Value} {d : D} {p : PV} (h : toPV d = some p) (hd : RD ρ I w v d) : RD [] I w v (.pv p) := by
  have single : ∀ d, toPV1 d = some p → R1 ρ I w v d → RD [] I w v (.pv p) := fun d h h' =>
    have := toPV1_sound h h'
    (rd_pv this.2).2 this.1
  cases d with
  | agg cs =>
    simp only [toPV, Option.map_eq_some_iff] at h
    obtain ⟨ps, h1, rfl⟩ := h
    obtain ⟨vs, rfl, h2, h3⟩ := rd_dagg.1 hd
    obtain ⟨h4, h5⟩ := toPV1s_sound h1 h2 h3
    exact rd_agg.2 ⟨vs, rfl, .agg vs ps h4 h5⟩
  | pv q =>
    cases q with
    | agg ps => simp [toPV] at h; subst h; exact rd_pv_rho hd
    | tup ps => simp [toPV, toPV1, toPV0] at h
    | _ => simp only [toPV] at h; exact single _ h hd
  | nils => exact single .nils h hd
  | clo f caps => exact single (.clo f caps) h hd
  | _ => simp [toPV, toPV1, toPV0] at h
end topv

theorem toPVs_sound {ρ : Rho} {I : Nat → Prop} {w : World} : ∀ {vs : List Value} {ds : List D} {ps : List PV}, toPVs ds = some ps → RDs ρ I w vs ds → RVs I w vs ps
  | [], [], ps, h, _ => by simp [toPVs] at h; subst h; trivial
  | v :: vs, d :: ds, ps, h, hr => by
    simp only [toPVs] at h
    split at h <;> simp at h
    rename_i p ps' h1 h2
    subst h
    exact ⟨toPV_sound h1 hr.1, toPVs_sound h2 hr.2⟩
  | [], _ :: _, _, _, h => h.elim
  | _ :: _, [], _, _, h => h.elim

theorem RVs_append {I : Nat → Prop} {w : World} : ∀ {vs us : List Value} {ps qs : List PV}, RVs I w vs ps → RVs I w us qs → RVs I w (vs ++ us) (ps ++ qs)
  | [], _, [], _, _, h => h
  | _ :: _, _, _ :: _, _, h, h' => ⟨h.1, RVs_append h.2 h'⟩
  | [], _, _ :: _, _, h, _ => h.elim
  | _ :: _, _, [], _, h, _ => h.elim

theorem RVs_of {I : Nat → Prop} {w : World} : ∀ {vs : List Value} {ps : List PV}, vs.length = ps.length → (∀ i (h : i < vs.length) (h' : i < ps.length), RD [] I w vs[i] (.pv ps[i])) → RVs I w vs ps
  | [], [], _, _ => trivial
  | v :: vs, p :: ps, hl, h => ⟨h 0 (by simp) (by simp), RVs_of (by simpa using hl) fun i hi hi' => by have := h (i + 1) (by simpa using hi) (by simpa using hi'); simpa using this⟩

section ops
variable {P : Program} {S : Store} {o : Oper} {E : Env} {c : D → Prop}

theorem dOpds_sound {ρ : Rho} {I : Nat → Prop} {w : World} {a : Act} : ∀ {xs : List Operand} {ys : List Opd}, dOpds xs = some ys →
    (∀ t, Operand.tmp t ∈ xs → RD ρ I w (a.tmps.getD t Go.undef) (E t)) → RDs ρ I w (xs.map a.eval) (ys.map (ev E))
  | [], ys, h, _ => by simp [dOpds] at h; subst h; trivial
  | x :: xs, ys, h, he => by
    simp only [dOpds] at h
    split at h <;> simp at h
    rename_i y ys' h1 h2
    subst h
    exact ⟨dOpd_sound h1 fun t ht => he t (by simp [ht]), dOpds_sound h2 fun t ht => he t (by simp [ht])⟩

theorem run_callFunc {f : FuncId} (h : callable P f = true) (args : Array Value) (w : World) : (callFunc f args).run P w = .ok (.enter f args) w := by
  unfold callable at h
  split at h
  · rename_i fn hfn
    simp only [Bool.and_eq_true, Bool.not_eq_true'] at h
    obtain ⟨h1, h2⟩ := h
    have h3 : fn.body.isNone = false := by cases hb : fn.body <;> simp_all
    simp only [callFunc, Sem.run_bind, run_program, Result.andThen_ok, hfn, h2, h3, Bool.false_eq_true, if_false, Sem.run_pure]
  · simp at h

theorem wp_enter {a : Act} {w : World} {next : Act → World → Prop} {Q : Exit → Act → World → Prop} {f : FuncId} {args : Array Value}
    (h : (execOp a.eval o).run P w = .ok (.enter f args) w) (hn : Calls P f args w fun e w' => ∃ u, e = .returned u ∧ next (a.put o.dst u) w') : o.wp P a w next Q := by
  unfold Oper.wp; rw [h]
  exact hn.mono fun e w' ⟨u, hu, hx⟩ => by subst hu; exact hx

theorem ok_call {f : FuncId} {args : Array Operand} {args' : List Opd} {ats : Array TypeId} (hop : o.op = .call { callee := .value (.func f), args := args, argTypes := ats })
    (hx : dOpds args.toList = some args') (hf : callable P f = true) (h : stepF P S (.call f args') E c) : ∃ d, OpOK P S o E d ∧ c d := by
  simp only [stepF] at h
  split at h
  · rename_i ps hps
    obtain ⟨r, hcon, hc⟩ := h
    refine ⟨_, fun ρ I w ac next Q hst he hn => ?_, hc⟩
    have g := dOpds_sound (E := E) (ρ := ρ) (I := I) (w := w) (a := ac) hx (fun t ht => he t (slots_mem (by simp [hop, Op.operands, Call.operands]; simpa using ht)))
    have g' := toPVs_sound hps g
    refine wp_enter (f := f) (args := (args.toList.map ac.eval).toArray) ?_ ?_
    · have : args.map ac.eval = (args.toList.map ac.eval).toArray := by rw [← Array.toList_map]
      rw [← this]
      have hev : ac.eval (.func f) = .func (.func f) #[] #[] := rfl
      simp [execOp, hop, resolve, hev, Deferred.ofValue, invoke, run_callFunc hf]
    · refine (hcon I w _ hst.old g').mono fun e w' ⟨u, p, I', h1, h2, h3, h4⟩ => ⟨u, h1, hn u I' w' h3 ?_⟩
      subst h2
      exact rd_rho h4
  · exact h.elim

theorem ok_callv {x : Operand} {x' : Opd} {args : Array Operand} {args' : List Opd} {ats : Array TypeId} (hop : o.op = .call { callee := .value x, args := args, argTypes := ats })
    (hx' : dOpd x = some x') (hx : dOpds args.toList = some args') (h : stepF P S (.callv x' args') E c) : ∃ d, OpOK P S o E d ∧ c d := by
  simp only [stepF] at h
  split at h
  · rename_i f caps ps hcl hps
    obtain ⟨hf, r, hcon, hc⟩ := h
    refine ⟨_, fun ρ I w ac next Q hst he hn => ?_, hc⟩
    have g0 := dOpd_sound hx' fun t ht => he t (slots_mem (by simp [hop, Op.operands, Call.operands, ht]))
    have g1 := toPV_sound hcl g0
    rw [rd_pv rfl] at g1
    have g := dOpds_sound (E := E) (ρ := ρ) (I := I) (w := w) (a := ac) hx (fun t ht => he t (slots_mem (by simp [hop, Op.operands, Call.operands]; exact Or.inr (by simpa using ht))))
    have g' := toPVs_sound hps g
    generalize hv : ac.eval x = v at *
    cases g1 with
    | clo _ vs _ h1 h2 h3 =>
      have hcaps : RVs I w vs caps := RVs_of h1 fun i hi hi' => (rd_pv (h3 _ (List.getElem_mem hi'))).2 (h2 i hi hi')
      refine wp_enter (f := f) (args := (args.toList.map ac.eval ++ vs).toArray) ?_ ?_
      · simp [execOp, hop, resolve, hv, Deferred.ofValue, invoke, run_callFunc hf]
      · refine (hcon I w _ hst.old (RVs_append g' hcaps)).mono fun e w' ⟨u, p, I', h1, h2, h3, h4⟩ => ⟨u, h1, hn u I' w' h3 ?_⟩
        subst h2
        exact rd_rho h4
  · exact h.elim

theorem ok_mkf {f : FuncId} {caps : Array Operand} {caps' : List Opd} (hop : o.op = .makeFunc (.func f) #[] caps) (hx : dOpds caps.toList = some caps')
    (h : stepF P S (.mkf f caps') E c) : ∃ d, OpOK P S o E d ∧ c d := by
  simp only [stepF] at h
  obtain ⟨hall, h⟩ := h
  refine ⟨_, opOK_pure fun ρ I w ac hst he => ⟨.func (.func f) #[] (caps.map ac.eval), by simp [execOp, hop, Instr.makeFunc], ?_⟩, h⟩
  have g := dOpds_sound (E := E) (ρ := ρ) (I := I) (w := w) (a := ac) hx (fun t ht => he t (slots_mem (by simp [hop, Op.operands]; simpa using ht)))
  have hcs : ∀ (xs : List Operand) (ys : List Opd), RDs ρ I w (xs.map ac.eval) (ys.map (ev E)) → (∀ y ∈ ys, isR0 (ev E y) = true) →
      (xs.map ac.eval).length = (ys.map (ev E)).length ∧ ∀ i (h : i < (xs.map ac.eval).length) (h' : i < (ys.map (ev E)).length), R0 ρ I w (xs.map ac.eval)[i] (ys.map (ev E))[i] := by
    intro xs
    induction xs with
    | nil => intro ys h _; cases ys with
      | nil => simp
      | cons y ys => exact h.elim
    | cons x xs ih => intro ys h hr; cases ys with
      | nil => exact h.elim
      | cons y ys =>
        obtain ⟨h1, h2⟩ := ih ys h.2 (fun z hz => hr z (by simp [hz]))
        refine ⟨by simpa using h1, fun i hi hi' => ?_⟩
        cases i with
        | zero =>
          have h3 := h.1
          have h4 := hr y (by simp)
          simp only [List.map_cons, List.getElem_cons_zero]
          generalize ev E y = d at *
          cases d with
          | pv p => cases p <;> first | exact h3 | (simp [isR0] at h4)
          | _ => first | exact h3 | (simp [isR0] at h4)
        | succ i => exact h2 i (by simpa using hi) (by simpa using hi')
  obtain ⟨h1, h2⟩ := hcs _ _ g hall
  show R1 ρ I w _ (.clo f _)
  refine ⟨caps.toList.map ac.eval, ?_, h1, h2⟩
  rw [← Array.toList_map]

theorem optI_sound {ρ : Rho} {I : Nat → Prop} {w : World} {ac : Act} {lo : Option Operand} {lo' : Option Opd} {dflt n : Int} (hl : lo.map dOpd = lo'.map some) (h : optI E lo' dflt = some n)
    (he : ∀ t, lo = some (.tmp t) → RD ρ I w (ac.tmps.getD t Go.undef) (E t)) : (lo = none ∧ n = dflt) ∨ ∃ x k, lo = some x ∧ ac.eval x = .int k n := by
  cases lo with
  | none =>
    cases lo' with
    | none => simp [optI] at h; exact .inl ⟨rfl, h.symm⟩
    | some y => simp at hl
  | some x =>
    cases lo' with
    | none => simp at hl
    | some y =>
      simp at hl
      have g := dOpd_sound (ρ := ρ) (I := I) (w := w) (a := ac) (E := E) hl fun t ht => he t (by rw [ht])
      simp only [optI] at h
      split at h <;> simp at h
      rename_i k m e
      rw [e, rd_int] at g
      subst h
      exact .inr ⟨x, k, rfl, g⟩

theorem rc_sub {I : Nat → Prop} {w : World} {v : Value} {ρ : Rho} {xs : List PV} {sz : Nat} (h : RD ρ I w v (.pv (.sl xs))) (l hh : Nat) (h1 : l ≤ hh) (h2 : hh ≤ xs.length) (hsz : ∀ x ∈ xs, x.nc = sz) :
    ∃ a cap, v = .slice a xs.length cap ∧ xs.length ≤ cap ∧ RD ρ I w (.slice (if cap = l then a else a.map (·.add (l * sz))) (hh - l) (cap - l)) (.pv (.sl ((xs.take hh).drop l))) := by
  have hlen : ((xs.take hh).drop l).length = hh - l := by simp; omega
  rcases rd_sl h with ⟨rfl, a, cap, rfl, hc⟩ | ⟨b, off, cap, sz', vs, rfl, h3, h4, h5, h6, h7, h8⟩
  · simp at h2
    subst h2
    have : l = 0 := by omega
    subst this
    refine ⟨a, cap, rfl, Nat.zero_le _, (rd_pv rfl).2 ?_⟩
    simp only [List.take_nil, List.drop_nil]
    exact .sl0 _ _ (by omega)
  · refine ⟨_, cap, rfl, h3, (rd_pv rfl).2 ?_⟩
    by_cases hlt : l < hh
    · have hne : cap ≠ l := by omega
      have hs : sz' = sz := by
        have e1 := h6 l (by omega)
        have e2 := (h8 l (by omega)).len
        rw [e1] at e2
        rw [e2]
        exact hsz _ (List.getElem_mem _)
      subst hs
      simp only [hne, if_false, Option.map_some, Addr.add_none]
      refine .sl _ b (off + l * sz') (cap - l) sz' (hh - l) (fun i => vs (l + i)) hlen.symm (by omega) (by omega) h5 (fun i hi => h6 _ (by omega)) (fun i hi => ?_) (fun i hi => ?_)
      · have := h7 (l + i) (by omega)
        rw [Nat.add_mul, ← Nat.add_assoc] at this
        exact this
      · have := h8 (l + i) (by omega)
        simpa using this
    · have : hh - l = 0 := by omega
      have hnil : (xs.take hh).drop l = [] := List.eq_nil_of_length_eq_zero (by omega)
      rw [this, hnil]
      exact .sl0 _ _ (by omega)

theorem slR_rd {ρ : Rho} {I : Nat → Prop} {w : World} {v : Value} {d : D} {a A : Option Addr} {n cap k l : Nat} {ys : List PV} (g : RD ρ I w v d) (hv : v = .slice a n cap) (hr : RD ρ I w (.slice A k (cap - l)) (.pv (.sl ys))) (hk : k ≤ n) : RD ρ I w (.slice A k (cap - l)) (slR d ys) := by
  unfold slR
  split
  · rw [rd_nils] at g
    obtain ⟨a', g⟩ := g
    rw [g] at hv
    injection hv with h1 h2 h3
    subst h2 h3
    rw [rd_nils]
    exact ⟨A, by rw [Nat.le_zero.1 hk, Nat.zero_sub]⟩
  · exact hr
theorem ok_slc {T e : TypeId} {x : Operand} {x' : Opd} {lo hi : Option Operand} {lo' hi' : Option Opd} {sz : Nat} (hop : o.op = .slice T x lo hi none) (hT : P.underlying T = some (.slice e)) (hs : szT P e = some sz)
    (hx : dOpd x = some x') (hl : lo.map dOpd = lo'.map some) (hh : hi.map dOpd = hi'.map some) (h : stepF P S (.slc sz x' lo' hi') E c) : ∃ d, OpOK P S o E d ∧ c d := by
  simp only [stepF] at h
  split at h
  · rename_i xs hxs
    split at h
    · rename_i l m hl' hm'
      obtain ⟨⟨h0, h1, h2, h3⟩, hc⟩ := h
      refine ⟨_, opOK_pure fun ρ I w ac hst he => ?_, hc⟩
      have g := dOpd_sound (ρ := ρ) (I := I) (w := w) hx fun t ht => he t (slots_mem (by simp [hop, Op.operands, ht]))
      have g' : RD ρ I w (ac.eval x) (.pv (.sl xs)) := by
        unfold asSl at hxs
        split at hxs <;> simp at hxs
        · rename_i e1; subst hxs; rw [e1] at g; exact g
        · rename_i e1; subst hxs; rw [e1, rd_nils] at g; obtain ⟨a, g⟩ := g; rw [g]; exact (rd_pv rfl).2 (.sl0 a 0 (Nat.zero_le _))
      have gl := optI_sound (ρ := ρ) (I := I) (w := w) (ac := ac) hl hl' fun t ht => he t (slots_mem (by simp [hop, Op.operands, ht]))
      have gm := optI_sound (ρ := ρ) (I := I) (w := w) (ac := ac) hh hm' fun t ht => he t (slots_mem (by simp [hop, Op.operands, ht]))
      obtain ⟨a, cap, hv, hcap, hr⟩ := rc_sub g' l.toNat m.toNat (by omega) (by omega) h3
      have hr2 := slR_rd (d := ev E x') g hv hr (by omega)
      refine ⟨_, ?_, hr2⟩
      have hm1 : m ≤ (cap : Int) := by omega
      have hm0 : 0 ≤ m := by omega
      have hlm : l ≤ (m.toNat : Int) := by omega
      have A1 : (Instr.sliceBounds true xs.length cap (lo.map ac.eval) (hi.map ac.eval) none).run P w = .ok (l.toNat, m.toNat, cap) w := by
        rcases gm with ⟨rfl, rfl⟩ | ⟨xm, km, rfl, em⟩ <;> rcases gl with ⟨rfl, rfl⟩ | ⟨xl, kl, rfl, el⟩ <;>
          simp_all [Instr.sliceBounds, Instr.sliceBound, asIntOf]
      simp [execOp, hop, Instr.sliceAt, Instr.slice, run_underlying hT, hv, A1, run_sizeOf' hs]
    · exact h.elim
  · split at h
    · rename_i oo n hxs
      split at h
      · rename_i l m hl' hm'
        obtain ⟨⟨h0, h1, h2⟩, hc⟩ := h
        subst h0
        refine ⟨_, opOK_pure fun ρ I w ac hst he => ?_, hc⟩
        have g := dOpd_sound (ρ := ρ) (I := I) (w := w) hx fun t ht => he t (slots_mem (by simp [hop, Op.operands, ht]))
        rw [hxs, rd_own] at g
        obtain ⟨b, sz', cap, cs, E', k1, hv, k3, k4, k5, k6⟩ := g
        have gl := optI_sound (ρ := ρ) (I := I) (w := w) (ac := ac) hl hl' fun t ht => he t (slots_mem (by simp [hop, Op.operands, ht]))
        have gm := optI_sound (ρ := ρ) (I := I) (w := w) (ac := ac) hh hm' fun t ht => he t (slots_mem (by simp [hop, Op.operands, ht]))
        have hm1 : m ≤ (cap : Int) := by omega
        have A1 : (Instr.sliceBounds true n cap (lo.map ac.eval) (hi.map ac.eval) none).run P w = .ok (0, m.toNat, cap) w := by
          rcases gm with ⟨rfl, rfl⟩ | ⟨xm, km, rfl, em⟩ <;> rcases gl with ⟨rfl, _⟩ | ⟨xl, kl, rfl, el⟩ <;>
            simp_all [Instr.sliceBounds, Instr.sliceBound, asIntOf]
        refine ⟨.slice (some ⟨b, 0, none⟩) m.toNat cap, ?_, rd_own.2 ⟨b, sz', cap, cs, E', k1, rfl, by omega, k4, k5, k6⟩⟩
        simp [execOp, hop, Instr.sliceAt, Instr.slice, run_underlying hT, hv, A1, run_sizeOf' hs, Addr.add_none]
      · exact h.elim
    · rename_i oo off n cap hxs
      split at h
      · rename_i l m hl' hm'
        obtain ⟨⟨h0, h1, h2, ob, hob, hosz⟩, hc⟩ := h
        refine ⟨_, opOK_pure fun ρ I w ac hst he => ?_, hc⟩
        have g := dOpd_sound (ρ := ρ) (I := I) (w := w) hx fun t ht => he t (slots_mem (by simp [hop, Op.operands, ht]))
        rw [hxs, rd_sub] at g
        obtain ⟨b, sz', cs, E', k1, hv, k3, k4, k5, k6⟩ := g
        obtain ⟨b2, sz2, j1, j2, _⟩ := hst.obs oo ob hob
        rw [k1] at j1
        simp at j1
        obtain ⟨rfl, rfl⟩ := j1
        have hz : sz' = sz := by rw [j2, hosz]
        clear j2 hosz
        subst hz
        have gl := optI_sound (ρ := ρ) (I := I) (w := w) (ac := ac) hl hl' fun t ht => he t (slots_mem (by simp [hop, Op.operands, ht]))
        have gm := optI_sound (ρ := ρ) (I := I) (w := w) (ac := ac) hh hm' fun t ht => he t (slots_mem (by simp [hop, Op.operands, ht]))
        have hm0 : 0 ≤ m := by omega
        have hlm : l ≤ (m.toNat : Int) := by omega
        have A1 : (Instr.sliceBounds true n cap (lo.map ac.eval) (hi.map ac.eval) none).run P w = .ok (l.toNat, m.toNat, cap) w := by
          rcases gm with ⟨rfl, rfl⟩ | ⟨xm, km, rfl, em⟩ <;> rcases gl with ⟨rfl, rfl⟩ | ⟨xl, kl, rfl, el⟩ <;>
            simp_all [Instr.sliceBounds, Instr.sliceBound, asIntOf]
        have hsub : m.toNat - l.toNat = (m - l).toNat := by omega
        refine ⟨.slice (some (if cap = l.toNat then ⟨b, off * sz', none⟩ else ⟨b, off * sz' + l.toNat * sz', none⟩)) (m - l).toNat (cap - l.toNat), ?_, ?_⟩
        · simp [execOp, hop, Instr.sliceAt, Instr.slice, run_underlying hT, hv, A1, run_sizeOf' hs, Addr.add_none, hsub]
          split <;> rfl
        · by_cases hc0 : cap = l.toNat
          · rw [if_pos hc0, if_pos hc0]
            refine rd_nils.2 ⟨some ⟨b, off * sz', none⟩, ?_⟩
            rw [show (m - l).toNat = 0 by omega, show cap - l.toNat = 0 by omega]
          · rw [if_neg hc0, if_neg hc0]
            refine rd_sub.2 ⟨b, sz', cs, E', k1, by rw [Nat.add_mul], by omega, by omega, k5, ?_⟩
            rw [show off + l.toNat + (cap - l.toNat) = off + cap by omega]
            exact k6
      · exact h.elim
    · exact h.elim

theorem ok_slc3 {T e : TypeId} {x : Operand} {x' : Opd} {lo : Option Operand} {hi mx : Operand} {lo' : Option Opd} {hi' mx' : Opd} {sz : Nat} (hop : o.op = .slice T x lo (some hi) (some mx)) (hT : P.underlying T = some (.slice e)) (hs : szT P e = some sz)
    (hx : dOpd x = some x') (hl : lo.map dOpd = lo'.map some) (hh : dOpd hi = some hi') (hmx : dOpd mx = some mx') (h : stepF P S (.slc3 sz x' lo' hi' mx') E c) : ∃ d, OpOK P S o E d ∧ c d := by
  simp only [stepF] at h
  split at h
  · rename_i oo off n cap hxs
    split at h
    · rename_i l m k hl' hm' hk'
      obtain ⟨⟨h0, h1, h2, h3⟩, hc⟩ := h
      refine ⟨_, opOK_pure fun ρ I w ac hst he => ?_, hc⟩
      have g := dOpd_sound (ρ := ρ) (I := I) (w := w) hx fun t ht => he t (slots_mem (by simp [hop, Op.operands, ht]))
      rw [hxs, rd_sub] at g
      obtain ⟨b, sz', cs, E', k1, hv, k3, k4, k5, k6⟩ := g
      have gl := optI_sound (ρ := ρ) (I := I) (w := w) (ac := ac) hl hl' fun t ht => he t (slots_mem (by simp [hop, Op.operands, ht]))
      have gm := optI_sound (ρ := ρ) (I := I) (w := w) (ac := ac) (lo := some hi) (by simpa using hh) hm' fun t ht => he t (slots_mem (by simp [hop, Op.operands]; simp at ht; simp [ht]))
      have gk := optI_sound (ρ := ρ) (I := I) (w := w) (ac := ac) (lo := some mx) (by simpa using hmx) hk' fun t ht => he t (slots_mem (by simp [hop, Op.operands]; simp at ht; simp [ht]))
      rcases gk with ⟨e0, _⟩ | ⟨xk, kk, ek, vk⟩
      · simp at e0
      simp at ek
      subst ek
      rcases gm with ⟨e0, _⟩ | ⟨xm, km, em, vm⟩
      · simp at e0
      simp at em
      subst em
      have hm0 : 0 ≤ m := by omega
      have hk0 : 0 ≤ k := by omega
      have hlm : l ≤ (m.toNat : Int) := by omega
      have hmk : m ≤ (k.toNat : Int) := by omega
      have A1 : (Instr.sliceBounds true n cap (lo.map ac.eval) (some (ac.eval hi)) (some (ac.eval mx))).run P w = .ok (l.toNat, m.toNat, k.toNat) w := by
        rcases gl with ⟨rfl, rfl⟩ | ⟨xl, kl, rfl, el⟩ <;>
          simp_all [Instr.sliceBounds, Instr.sliceBound, asIntOf]
      refine ⟨.slice (if k.toNat = l.toNat then some ⟨b, off * sz', none⟩ else (some ⟨b, off * sz', none⟩ : Option Addr).map (·.add (l.toNat * sz))) (m.toNat - l.toNat) (k.toNat - l.toNat), ?_, rd_any⟩
      simp [execOp, hop, Instr.sliceAt, Instr.slice, run_underlying hT, hv, A1, run_sizeOf' hs]
    · exact h.elim
  · exact h.elim

end ops
end Go.V
