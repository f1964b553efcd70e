/- A part of the proofs about laws of the page tree (see the text that bears the law): a small language of steps, its rules, and what the functions of the program return. -/
import Derived.Test.YtgblkaealpggdaaQJ
set_option linter.all false
set_option linter.unusedVariables false
set_option linter.unusedSimpArgs false
namespace Go.V
/-! own lists that a call reads and that are own no more -/
theorem RDs_rho {ρ ρ' : Rho} {I : Nat → Prop} {w : World} : ∀ {vs : List Value} {ps : List PV}, RDs ρ I w vs (ps.map .pv) → RDs ρ' I w vs (ps.map .pv)
  | [], [], _ => trivial
  | _ :: _, _ :: _, h => ⟨rd_pv_rho h.1, RDs_rho h.2⟩
  | [], _ :: _, h => h.elim
  | _ :: _, [], h => h.elim
theorem CallS.frz {P : Program} {f : FuncId} {ds : List D} {ps : List PV} {ob : Ob} {c : D → Store → Prop} (h : CallS P f (ps.map .pv) [none] c) (hp : toRs 5 [some ob] ds = some ps) : CallS P f ds [some ob] c := fun ρ I w vs hs hv => by
  have hold : ∀ b, allI ρ I b → b < w.heap.size := fun b hb => by
    rcases hb with hb | ⟨o, sz, ho⟩
    · exact hs.old b hb
    · exact hs.lt o b sz ho
  have no : ∀ (o : Nat) (x : Ob), ([none] : Store)[o]? = some (some x) → False := fun o x ho => by
    cases o with
    | zero => simp at ho
    | succ o => simp at ho
  have hs' : St ρ (allI ρ I) w [none] := ⟨⟨hold, fun o x ho => (no o x ho).elim⟩, hs.len, hs.lt, fun o b sz x ho => (no o x ho).elim, fun o o' b sz sz' x x' ho => (no o x ho).elim⟩
  refine (h ρ (allI ρ I) w vs hs' (RDs_rho (RVs_RDs (toRs_sound hs hp hv)))).mono ?_
  rintro e w1 ⟨u, d, ρ1, I1, S1, he, hc, hs1, hu, hx⟩
  exact ⟨u, d, ρ1, I1, S1, he, hc, hs1, hu, ⟨hx.os, hx.tape, hx.output, hx.size, hx.kept, hx.block, fun b hb => hx.im b (.inl hb), fun b hb => (hx.inew b hb).elim (fun g => g.elim .inl fun ⟨o, sz, ho⟩ => .inr (.inr ⟨o, sz, ho⟩)) .inr, hx.rnew, hx.fix⟩⟩
def NewTe (P : Program) (f : FuncId) (pty : Nat) (args : List PV) (Q : Pt → PV → Prop) : Prop :=
  CallS P f (args.map .pv) [] (fun d S => ∃ T x R, Q T x ∧ d = .tup [treeD 0 T, .pv x] ∧ S = obD pty 3 (dG T.ps) :: R)
theorem NewTe.trim {P : Program} {f : FuncId} {pty : Nat} {args : List PV} {Q : Pt → PV → Prop} (h : NewTe P f pty args Q) : CallS P f (args.map .pv) [] (fun d S => ∃ T x, Q T x ∧ d = .tup [treeD 0 T, .pv x] ∧ S = [obD pty 3 (dG T.ps)]) := by
  refine CallS.bd h ?_
  rintro d S' ⟨T, x, R, hq, rfl, rfl⟩
  refine Bd.renL [0] (fun i hi => absurd hi (Nat.not_lt_zero i)) (by simp) [(0, .tup [treeD 0 T, .pv x])] ⟨tup_own (mpS_pv _ _) (mp1_own rfl), trivial⟩ (S' := [obD pty 3 (dG T.ps)]) ?_ ?_
  · show [(obD pty 3 (dG T.ps)).map (mpOb (inv [0]))] = _
    rw [obD_mG]
  · exact ⟨T, x, hq, rfl, rfl⟩
theorem NewTe.at {P : Program} {f : FuncId} {pty : Nat} {args : List PV} {Q : Pt → PV → Prop} (h : NewTe P f pty args Q) (S : Store) : CallS P f (args.map .pv) S (fun d S' => ∃ T x, Q T x ∧ d = .tup [treeD S.length T, .pv x] ∧ S' = S ++ [obD pty 3 (dG T.ps)]) := by
  refine CallS.frame (c1 := fun d S => ∃ T x, Q T x ∧ d = .tup [treeD 0 T, .pv x] ∧ S = [obD pty 3 (dG T.ps)]) [] (by simp) (by simp) ?_ ?_
  · rw [map_pv_inv]; exact h.trim
  · rintro d S1 ⟨T, x, hq, rfl, rfl⟩
    rw [mergeS_nil, tup_own (k := S.length) (mpS_pv _ _) (by rw [fwd_own' (k := 0), Nat.add_zero])]
    simp only [List.map_cons, List.map_nil, obD_mG]
    exact ⟨T, x, hq, rfl, rfl⟩
section q
variable {P : Program} {sf : SM} {r : RT} {L : List (Nat × D)} {S : Store} {K : Env → Store → Prop} {t : Nat}
theorem q_newTe {f : FuncId} {pty : Nat} {args' : List Opd} {args : List PV} {Q : Pt → PV → Prop} (hm : cOK sf = true) (hc : NewTe P f pty args Q) (ha : sameA (args'.map (ev (env L))) (args.map .pv)) (hs : ∀ T : Pt, sOK sf (S ++ [obD pty 3 (dG T.ps)]))
    (h : ∀ T x, Q T x → RG P sf r (env ((t, .tup [treeD S.length T, .pv x]) :: L)) (S ++ [obD pty 3 (dG T.ps)]) K) : RG P sf (.op ⟨some t, none, .call f args'⟩ r) (env L) S K := by
  refine q_call hm (CallS.same ha ((hc.at S).mono ?_))
  rintro d S' ⟨T, x, hq, rfl, rfl⟩
  exact ⟨hs T, h T x hq⟩
theorem q_newTo {f : FuncId} {pty o : Nat} {args' : List Opd} {T0 : Pt} {p : PV} {Q : Pt → PV → Prop} (hm : cOK sf = true) (hc : NewTe P f pty [ptP T0, p] Q) (hp : ofPV p = .pv p) (ha : sameA (args'.map (ev (env L))) [treeD o T0, .pv p]) (hS : S[o]? = some (obD pty 3 (dG T0.ps))) (h0 : T0.ps ≠ [])
    (hs : ∀ T : Pt, sOK sf (S.set o none ++ [obD pty 3 (dG T.ps)])) (h : ∀ T x, Q T x → RG P sf r (env ((t, .tup [treeD S.length T, .pv x]) :: L)) (S.set o none ++ [obD pty 3 (dG T.ps)]) K) : RG P sf (.op ⟨some t, none, .call f args'⟩ r) (env L) S K := by
  have ho : o < S.length := (List.getElem?_eq_some_iff.1 hS).1
  have hne : dG T0.ps ≠ [] := by simpa using h0
  have hob : obD pty 3 (dG T0.ps) = some ⟨pty, 3, dG T0.ps⟩ := obD_ne hne
  refine q_call hm (CallS.same ha ?_)
  have e1 : subS [o] S = [some ⟨pty, 3, dG T0.ps⟩] := by
    show [(S.getD o none).map (mpOb (inv [o]))] = _
    rw [List.getD_eq_getElem?_getD, hS]
    show [(obD pty 3 (dG T0.ps)).map (mpOb (inv [o]))] = _
    rw [obD_mG, hob]
  have e2 : [treeD o T0, D.pv p].map (mpD (inv [o])) = [treeD 0 T0, .pv p] := by
    show [mpD (inv [o]) (treeD o T0), mpD (inv [o]) (.pv p)] = _
    rw [tree_own (k := 0) (mp1_own (by simp [posOf])), mpD_pv]
  have hcall := CallS.frz (ob := ⟨pty, 3, dG T0.ps⟩) (ds := [treeD 0 T0, .pv p]) (hc.at [none]) (toRs_cons (toR_agg2 rfl (toR_G (by rw [List.getElem?_cons_zero, hob]))) (toRs_cons (by
    cases p <;> first | rfl | simp [ofPV] at hp) toRs_nil))
  refine CallS.frame (c1 := fun d S => ∃ T x, Q T x ∧ d = .tup [treeD 1 T, .pv x] ∧ S = [none, obD pty 3 (dG T.ps)]) [o] (by simp) (by simpa using ⟨_, by rw [hS, hob]⟩) ?_ ?_
  · rw [e1, e2]; exact hcall
  · rintro d S1 ⟨T, x, hq, rfl, rfl⟩
    rw [mergeS_one ho, tup_own (k := S.length) (mpS_pv _ _) (fwd_ownG (fun n => by simp [fwd, extO]) rfl)]
    simp only [List.getD_eq_getElem?_getD, List.getElem?_cons_zero, Option.getD_some, List.drop_succ_cons, List.drop_zero, List.map_cons, List.map_nil, Option.map_none, obD_mG]
    exact ⟨hs T, h T x hq⟩
end q
def RdT (P : Program) (f : FuncId) (ty pty : Nat) (bs : List Int) (p : Int) (args : List PV) (Q : Pt → Int → Prop) : Prop :=
  CallS P f (.ptr 0 0 0 :: args.map .pv) [some (rdr ty bs p)] (fun d S => ∃ T q R, Q T q ∧ d = treeD 1 T ∧ S = some (rdr ty bs q) :: obD pty 3 (dG T.ps) :: R)
theorem RdT.trim {P : Program} {f : FuncId} {ty pty : Nat} {bs : List Int} {p : Int} {args : List PV} {Q : Pt → Int → Prop} (h : RdT P f ty pty bs p args Q) :
    CallS P f (.ptr 0 0 0 :: args.map .pv) [some (rdr ty bs p)] (fun d S => ∃ T q, Q T q ∧ d = treeD 1 T ∧ S = [some (rdr ty bs q), obD pty 3 (dG T.ps)]) := by
  refine CallS.bd h ?_
  rintro d S' ⟨T, q, R, hq, rfl, rfl⟩
  refine Bd.renL [0, 1] (fun i hi => by have e : i = 0 := (by simp at hi; omega); subst e; rfl) (by simp) [(0, treeD 1 T)] ⟨tree_own (mp1_own rfl), trivial⟩ (S' := [some (rdr ty bs q), obD pty 3 (dG T.ps)]) ?_ ?_
  · show [(some (rdr ty bs q)).map (mpOb (inv [0, 1])), (obD pty 3 (dG T.ps)).map (mpOb (inv [0, 1]))] = _
    rw [obD_mG]; rfl
  · exact ⟨T, q, hq, rfl, rfl⟩
section q
variable {P : Program} {sf : SM} {r : RT} {L : List (Nat × D)} {S : Store} {K : Env → Store → Prop} {t : Nat}
theorem q_rdt {f : FuncId} {ty pty : Nat} {bs : List Int} {p : Int} {args' : List Opd} {args : List PV} {o : Nat} {Q : Pt → Int → Prop} (hm : cOK sf = true) (hc : RdT P f ty pty bs p args Q) (ha : args'.map (ev (env L)) = .ptr o 0 0 :: args.map .pv) (hS : S[o]? = some (some (rdr ty bs p)))
    (hs : ∀ (T : Pt) (q : Int), sOK sf (S.set o (some (rdr ty bs q)) ++ [obD pty 3 (dG T.ps)]))
    (h : ∀ (T : Pt) (q : Int), Q T q → RG P sf r (env ((t, treeD S.length T) :: L)) (S.set o (some (rdr ty bs q)) ++ [obD pty 3 (dG T.ps)]) K) : RG P sf (.op ⟨some t, none, .call f args'⟩ r) (env L) S K := by
  have ho : o < S.length := (List.getElem?_eq_some_iff.1 hS).1
  refine q_call hm ?_
  rw [ha]
  have e1 : subS [o] S = [some (rdr ty bs p)] := by simp [subS, List.getD_eq_getElem?_getD, hS, mpOb_rdr]
  have e2 : (.ptr o 0 0 :: args.map D.pv).map (mpD (inv [o])) = .ptr 0 0 0 :: args.map .pv := by
    simp only [List.map_cons, List.map_map]
    rw [show mpD (inv [o]) (D.ptr o 0 0) = .ptr 0 0 0 by simp [mpD, mpS, mp1, mp0, inv, posOf_single]]
    exact congrArg (D.ptr 0 0 0 :: ·) (List.map_congr_left fun x _ => mpD_pv _ _)
  refine CallS.frame (c1 := fun d S => ∃ T q, Q T q ∧ d = treeD 1 T ∧ S = [some (rdr ty bs q), obD pty 3 (dG T.ps)]) [o] (by simp) (by simpa using ⟨_, hS⟩) ?_ ?_
  · rw [e1, e2]; exact hc.trim
  · rintro d S1 ⟨T, q, hq, rfl, rfl⟩
    rw [mergeS_one ho, tree_own (k := S.length) (fwd_ownG (fun n => by simp [fwd, extO]) rfl)]
    have := hs T q
    have := h T q hq
    simp only [List.getD_eq_getElem?_getD, List.getElem?_cons_zero, Option.getD_some, Option.map_some, mpOb_rdr, List.drop_succ_cons, List.drop_zero, List.map_cons, List.map_nil, obD_mG]
    exact ⟨‹_›, ‹_›⟩
end q
def okDropT (t : Pt) (k : Int) : Bool := validT t && (keysR (prV t)).contains k
theorem okDropT_iff {t : Pt} {k : Int} : okDropT t k = true ↔ validT t = true ∧ (keysR (prV t)).contains k = true := by simp [okDropT]
theorem SafeT.lens {t : Pt} (h : SafeT t) {n : Nat} (hw : (wlk t n t.r).length ≤ 216) (hin : ∀ x ∈ wlk t n t.r, inT t x = true) : (prT t n).length ≤ 864 := by
  have h2 : (lvT t n).length ≤ (wlk t n t.r).length := List.length_filter_le ..
  have h3 := flatM_len (fun i => rowG (pg t i)) 4 (lvT t n) fun i hi => by
    rw [rowG_len]
    have := inT_iff.1 (hin i (List.mem_filter.1 hi).1)
    exact (h.bd i.toNat (by omega)).ln.1
  rw [prT]; omega
end Go.V
namespace Go.V
theorem NewT.at {P : Program} {f : FuncId} {pty : Nat} {args : List PV} {t : Pt} (h : NewT P f pty args t) (S : Store) : CallS P f (args.map .pv) S (fun d S' => d = treeD S.length t ∧ S' = S ++ [obD pty 3 (dG t.ps)]) := by
  refine CallS.frame (c1 := fun d S => d = treeD 0 t ∧ S = [obD pty 3 (dG t.ps)]) [] (by simp) (by simp) ?_ ?_
  · rw [map_pv_inv]; exact h.trim
  · rintro d S1 ⟨rfl, rfl⟩
    rw [mergeS_nil, tree_own (k := S.length) (by rw [fwd_own' (k := 0), Nat.add_zero])]
    simp only [List.map_cons, List.map_nil, obD_mG]
    exact ⟨by first | trivial | rfl, by first | trivial | rfl⟩
theorem set_none {S : Store} {o : Nat} (h : S[o]? = some none) : S.set o none = S := by
  apply List.ext_getElem?
  intro x
  rw [List.getElem?_set]
  split
  · rename_i e; subst e; rw [h]; have := (List.getElem?_eq_some_iff.1 h).1; simp [this]
  · rfl
section q
variable {P : Program} {sf : SM} {r : RT} {L : List (Nat × D)} {S : Store} {K : Env → Store → Prop} {t : Nat}
theorem q_newTz {f : FuncId} {pty ity o : Nat} {args' : List Opd} {xs : List (Int × Int)} {T : Pt} (hm : cOK sf = true) (hc : NewT P f pty [prs xs] T) (ha : args'.map (ev (env L)) = [ownD o (dP xs)]) (hS : S[o]? = some (obD ity 2 (dP xs)))
    (hs : sOK sf (S.set o none ++ [obD pty 3 (dG T.ps)])) (h : RG P sf r (env ((t, treeD S.length T) :: L)) (S.set o none ++ [obD pty 3 (dG T.ps)]) K) : RG P sf (.op ⟨some t, none, .call f args'⟩ r) (env L) S K := by
  by_cases h0 : xs = []
  · subst h0
    rw [set_none hS] at hs h
    exact q_newTs hm hc (by rw [ha]; exact ⟨.inr ⟨_, rfl, rfl⟩, trivial⟩) hs h
  · have ho : o < S.length := (List.getElem?_eq_some_iff.1 hS).1
    have hob : obD ity 2 (dP xs) = some ⟨ity, 2, dP xs⟩ := obD_ne (by simpa using h0)
    refine q_call hm ?_
    rw [ha]
    have e1 : subS [o] S = [some ⟨ity, 2, dP xs⟩] := by
      show [(S.getD o none).map (mpOb (inv [o]))] = _
      rw [List.getD_eq_getElem?_getD, hS]
      show [(obD ity 2 (dP xs)).map (mpOb (inv [o]))] = _
      rw [obD_mP, hob]
    have hcall := CallS.frz (ob := ⟨ity, 2, dP xs⟩) (ds := [ownD 0 (dP xs)]) (hc.at [none]) (toRs_cons (toR_P (by rw [List.getElem?_cons_zero, hob])) toRs_nil)
    refine CallS.frame (c1 := fun d S => d = treeD 1 T ∧ S = [none, obD pty 3 (dG T.ps)]) [o] (by simp) (by simpa using ⟨_, by rw [hS, hob]⟩) ?_ ?_
    · rw [e1, List.map_cons, List.map_nil, inv_own (k := 0) (by simp [posOf])]; exact hcall
    · rintro d S1 ⟨rfl, rfl⟩
      rw [mergeS_one ho, tree_own (k := S.length) (fwd_ownG (fun n => by simp [fwd, extO]) rfl)]
      simp only [List.getD_eq_getElem?_getD, List.getElem?_cons_zero, Option.getD_some, List.drop_succ_cons, List.drop_zero, List.map_cons, List.map_nil, Option.map_none, obD_mG]
      exact ⟨hs, h⟩
end q
end Go.V
namespace Go.V
def pvy : D → D
  | .own _ 0 => .pv (.sl [])
  | d => d
theorem R1.pvy {ρ : Rho} {I : Nat → Prop} {w : World} {v : Value} {d : D} (h : R1 ρ I w v d) : R1 ρ I w v (pvy d) := by
  cases d with
  | own o n =>
    cases n with
    | zero =>
      obtain ⟨b, sz, cap, cs, E, h1, rfl, h2, h3, h4⟩ := h
      exact (RC.sl0 _ cap h3 : RC I w _ _)
    | succ n => exact h
  | _ => exact h
theorem Bd.aggY {k0 : Nat} {E : Env} {S : Store} {R : Env → Store → Prop} (o i : Nat) {ob : Ob} (ps : List D) (hO : S[o]? = some (some ob)) (hi : ob.xs[i]? = some (.agg ps))
    (h : Bd k0 E (S.set o (some { ob with xs := ob.xs.set i (.agg (ps.map pvy)) })) R) : Bd k0 E S R := by
  refine Bd.then (R' := fun E' S' => E' = E ∧ S' = S.set o (some { ob with xs := ob.xs.set i (.agg (ps.map pvy)) })) ?_ (by rintro _ _ ⟨rfl, rfl⟩; exact h)
  intro ρ I w a hs he hk
  have hget : ∀ q (ob' : Ob), (S.set o (some { ob with xs := ob.xs.set i (.agg (ps.map pvy)) }))[q]? = some (some ob') → ∃ ob0, S[q]? = some (some ob0) ∧ ((q ≠ o ∧ ob' = ob0) ∨ (q = o ∧ ob0 = ob ∧ ob' = { ob with xs := ob.xs.set i (.agg (ps.map pvy)) })) := fun q ob' hq => by
    rw [List.getElem?_set] at hq
    split at hq
    · rename_i e
      subst e
      split at hq <;> simp at hq
      exact ⟨ob, hO, .inr ⟨rfl, rfl, hq.symm⟩⟩
    · rename_i hne
      exact ⟨ob', hq, .inl ⟨fun e => hne e.symm, rfl⟩⟩
  refine ⟨E, _, ρ, I, ⟨rfl, rfl⟩, { old := hs.old, obs := ?_, len := by simp [hs.len], lt := hs.lt, apart := ?_, inj := ?_ }, he, Ext.refl _ _ _ _⟩
  · intro q ob' hq
    obtain ⟨ob0, g1, g2⟩ := hget q ob' hq
    obtain ⟨b, sz', k1, k2, cs0, k3, k4, k5⟩ := hs.obs q ob0 g1
    rcases g2 with ⟨_, rfl⟩ | ⟨rfl, rfl, rfl⟩
    · exact ⟨b, sz', k1, k2, cs0, k3, k4, k5⟩
    · refine ⟨b, sz', k1, k2, cs0, k3, by simpa using k4, fun q' hq' => ?_⟩
      have hq2 : q' < ob0.xs.length := by simpa using hq'
      have old := k5 q' hq2
      by_cases e : q' = i
      · subst e
        rw [List.getElem?_eq_getElem hq2] at hi
        simp at hi
        simp only [List.getElem_set_self]
        rw [hi] at old
        refine ⟨by simpa using old.1, fun m hm hm' => ?_⟩
        have := old.2 m hm (by simpa using hm')
        simp only [List.getElem_map]
        exact this.pvy
      · simp only [List.getElem_set_ne (fun e' => e e'.symm)]
        exact old
  · intro q b' sz' ob' hq hρ
    obtain ⟨ob0, g1, _⟩ := hget q ob' hq
    exact hs.apart q b' sz' ob0 g1 hρ
  · intro q q' b' sz1 sz2 obq obq' hq hq' hρ hρ'
    obtain ⟨ob0, g1, _⟩ := hget q obq hq
    obtain ⟨ob0', g1', _⟩ := hget q' obq' hq'
    exact hs.inj q q' b' sz1 sz2 ob0 ob0' g1 g1' hρ hρ'
theorem Bd.frzP {k0 : Nat} {E : Env} {S : Store} {R : Env → Store → Prop} (k o1 : Nat) {ty n : Nat} {r : Int} {qs : List Pg} {ob : Ob} (hk : k ≠ o1) (hS : S[k]? = some (some ⟨ty, 3, dG qs⟩)) (hn : qs.length = n) (hO : S[o1]? = some (some ob)) (hx : ob.xs = [.agg [.pv (i64 r), .own k n]])
    (h : Bd k0 E ((S.set k none).set o1 (some { ob with xs := [.agg [.pv (i64 r), .pv (pgsP qs)]] })) R) : Bd k0 E S R := by
  subst hn
  have ho1 : o1 < S.length := (List.getElem?_eq_some_iff.1 hO).1
  cases qs with
  | nil =>
    refine Bd.then (Bd.drop k (R := fun E' S' => E' = E ∧ S' = S.set k none) ⟨rfl, rfl⟩) ?_
    rintro _ _ ⟨rfl, rfl⟩
    refine Bd.aggY o1 0 [.pv (i64 r), .own k 0] (ob := ob) (by rw [List.getElem?_set_ne hk]; exact hO) (by rw [hx]; rfl) ?_
    rw [hx]; exact h
  | cons q qs =>
    refine Bd.frzFB k o1 0 1 ty 3 (xs := dG (q :: qs)) hk hS (toPVs_dG _) hO (cs := [.pv (i64 r), .own k (q :: qs).length]) (by rw [hx]; rfl) (by show some (D.own k (q :: qs).length) = some (ownD k (dG (q :: qs))); simp [ownD]) ?_
    rw [hx]; exact h
/-! a call that is given an own list of numbers -/
theorem CallS.pre3 {P : Program} {f : FuncId} {d0 d1 d2 : D} {S : Store} {c : D → Store → Prop} (h : Bd S.length (env [(0, d0), (1, d1), (2, d2)]) S (fun E S' => S.length ≤ S'.length ∧ CallS P f [E 0, E 1, E 2] S' c)) : CallS P f [d0, d1, d2] S c := fun ρ I w vs hs hv => by
  match vs, hv with
  | [v0, v1, v2], hv =>
    obtain ⟨E', S', ρ', I', ⟨hl, hc⟩, k1, k2, k3⟩ := h ρ I w { tmps := #[v0, v1, v2], defers := [] } hs (fun t => by
      rw [env_cons]
      split
      · rename_i e; subst e; exact hv.1
      · rw [env_cons]
        split
        · rename_i e; subst e; exact hv.2.1
        · rw [env_cons]
          split
          · rename_i e; subst e; exact hv.2.2.1
          · exact rd_any) (Nat.le_refl _)
    exact (hc ρ' I' w [v0, v1, v2] k1 ⟨k2 0, k2 1, k2 2, trivial⟩).mono fun e w' ⟨u, d, ρ2, I2, S2, h1, h2, h3, h4, h5⟩ => ⟨u, d, ρ2, I2, S2, h1, h2, h3, h4, k3.trans (h5.le hl)⟩
section q
variable {P : Program} {sf : SM} {r : RT} {L : List (Nat × D)} {S : Store} {K : Env → Store → Prop} {t : Nat}
theorem q_rdo2 {f : FuncId} {ty ity : Nat} {bs : List Int} {p : Int} {args' : List Opd} {xs : List Int} {n : PV} {o o2 : Nat} {Q : PV → Int → Prop} (hm : cOK sf = true) (hc : RdS P f ty bs p [ints xs, n] Q) (ha : args'.map (ev (env L)) = [.ptr o 0 0, ownD o2 (dI xs), .pv n]) (hS : S[o]? = some (some (rdr ty bs p))) (hS2 : S[o2]? = some (obD ity 1 (dI xs))) (hne : o ≠ o2) (h0 : xs ≠ [])
    (hs : ∀ q, sOK sf ((S.set o (some (rdr ty bs q))).set o2 none)) (h : ∀ x q, Q x q → RG P sf r (env ((t, ofPV x) :: L)) ((S.set o (some (rdr ty bs q))).set o2 none) K) : RG P sf (.op ⟨some t, none, .call f args'⟩ r) (env L) S K := by
  have l1 : o < S.length := (List.getElem?_eq_some_iff.1 hS).1
  have l2 : o2 < S.length := (List.getElem?_eq_some_iff.1 hS2).1
  have hob : obD ity 1 (dI xs) = some ⟨ity, 1, dI xs⟩ := obD_ne (by simpa using h0)
  have p1 : posOf [o, o2] o = some 0 := by simp [posOf]
  have p2 : posOf [o, o2] o2 = some 1 := by simp [posOf, hne]
  have hin : CallS P f [.ptr 0 0 0, ownD 1 (dI xs), .pv n] [some (rdr ty bs p), obD ity 1 (dI xs)] (fun d S' => ∃ x q, d = ofPV x ∧ Q x q ∧ S' = [some (rdr ty bs q), none]) := by
    refine CallS.pre3 (Bd.pure 1 1 ity 1 (xs := dI xs) rfl rfl (toPVs_dI _) ⟨Nat.le_refl 2, ?_⟩)
    exact (hc.at (S := [some (rdr ty bs p), none]) (o := 0) rfl).mono fun d S' ⟨x, q, h1, h2, h3⟩ => ⟨x, q, h1, h2, h3⟩
  refine q_call hm ?_
  rw [ha]
  have e1 : subS [o, o2] S = [some (rdr ty bs p), obD ity 1 (dI xs)] := by
    show [(S.getD o none).map (mpOb (inv [o, o2])), (S.getD o2 none).map (mpOb (inv [o, o2]))] = _
    rw [List.getD_eq_getElem?_getD, List.getD_eq_getElem?_getD, hS, hS2]
    show [(some (rdr ty bs p)).map (mpOb (inv [o, o2])), (obD ity 1 (dI xs)).map (mpOb (inv [o, o2]))] = _
    rw [obD_mI]; rfl
  have e2 : [D.ptr o 0 0, ownD o2 (dI xs), .pv n].map (mpD (inv [o, o2])) = [.ptr 0 0 0, ownD 1 (dI xs), .pv n] := by
    simp only [List.map_cons, List.map_nil]
    rw [show mpD (inv [o, o2]) (D.ptr o 0 0) = .ptr 0 0 0 by simp [mpD, mpS, mp1, mp0, inv, p1], inv_own p2, mpD_pv]
  refine CallS.frame (c1 := fun d S' => ∃ x q, d = ofPV x ∧ Q x q ∧ S' = [some (rdr ty bs q), none]) [o, o2] (by simp [hne]) ?_ ?_ ?_
  · intro q hq
    simp at hq
    rcases hq with rfl | rfl
    · exact ⟨_, hS⟩
    · exact ⟨_, by rw [hS2, hob]⟩
  · rw [e1, e2]; exact hin
  · rintro d S1 ⟨x, q, rfl, hq, rfl⟩
    rw [mergeS_two l1 l2 hne, mpD_ofPV]
    simp only [Option.map_some, mpOb_rdr, Option.map_none, List.map_nil, List.append_nil]
    exact ⟨hs q, h x q hq⟩
theorem q_store_gfd {ty : Nat} {x y : Opd} {o i j : Nat} {qs : List Pg} (v : List Int) (hx : ev (env L) x = .ptr o i j) (hy : ev (env L) y = .pv (ints v)) (hj : j < 3) (hS : S[o]? = some (obD ty 3 (dG qs))) (hi : i < qs.length)
    (hs : sOK sf (S.set o (some ⟨ty, 3, (dG qs).set i (.agg (setAt (pgC (nth qs i)) j [.pv (ints v)]))⟩))) (h : RG P sf r (env L) (S.set o (some ⟨ty, 3, (dG qs).set i (.agg (setAt (pgC (nth qs i)) j [.pv (ints v)]))⟩)) K) : RG P sf (.op ⟨none, none, .store 1 x y⟩ r) (env L) S K := by
  rw [obD_ne (ne_map (by omega))] at hS
  exact q_store (e := .pv (pgP (nth qs i))) (cs := pgC (nth qs i)) (ds := [.pv (ints v)]) hx hy hS (get_dG hi) rfl rfl ⟨rfl, rfl, by show j + 1 ≤ 3; omega, rfl, by simp [isOne]⟩ rfl hs h
end q
structure AnyT (t : Pt) : Prop where
  many : t.ps.length ≤ 16
  sm : ∀ i, i < t.ps.length → (nth t.ps i).ks.length ≤ 100 ∧ (nth t.ps i).cs.length ≤ 100 ∧ (nth t.ps i).vs.length ≤ 100
theorem AnyT.small {t : Pt} (h : AnyT t) : smallT t := ⟨by have := h.many; omega, fun i h0 h2 => by
  have k := h.sm i.toNat (by omega)
  have e : pg t i = nth t.ps i.toNat := rfl
  rw [e]; omega⟩
theorem SafeT.any {t : Pt} (h : SafeT t) : AnyT t := ⟨h.many.2, fun i hi => by have := (h.bd i hi).ln; omega⟩
theorem AnyT.set {t : Pt} {i : Nat} {g : Pg} (h : AnyT t) (hg : g.ks.length ≤ 100 ∧ g.cs.length ≤ 100 ∧ g.vs.length ≤ 100) : AnyT ⟨t.r, t.ps.set i g⟩ := ⟨by have := h.many; simpa using this, fun j hj => by
  have hj' : j < t.ps.length := by simpa using hj
  show (nth (t.ps.set i g) j).ks.length ≤ 100 ∧ _
  rw [nth_set hj']
  split
  · exact hg
  · exact h.sm j hj'⟩
theorem AnyT.take {t : Pt} {m : Nat} (h : AnyT t) : AnyT ⟨t.r, t.ps.take m⟩ := ⟨by have := h.many; show (t.ps.take m).length ≤ 16; simp; omega, fun j hj => by
  have hj' : j < t.ps.length := by have hj2 : j < (t.ps.take m).length := hj; simp at hj2; omega
  show (nth (t.ps.take m) j).ks.length ≤ 100 ∧ _
  have e : nth (t.ps.take m) j = nth t.ps j := by
    have hj2 : j < (t.ps.take m).length := hj
    rw [nth_eq hj2, nth_eq hj', List.getElem_take]
  rw [e]; exact h.sm j hj'⟩
theorem AnyT.root {t : Pt} {r : Int} (h : AnyT t) : AnyT ⟨r, t.ps⟩ := ⟨h.many, h.sm⟩
theorem SafeT.bdI {t : Pt} (h : SafeT t) {i : Nat} (hi : i < t.ps.length) : bdI 1000 (nth t.ps i).ks ∧ bdI 1000 (nth t.ps i).cs ∧ bdI 1000 (nth t.ps i).vs := by
  have k := h.bd i hi
  exact ⟨bdI.mem.2 fun v hv => by have := k.ks v hv; omega, bdI.mem.2 fun v hv => by have := k.cs v hv; omega, bdI.mem.2 fun v hv => by have := k.vs v hv; omega⟩
end Go.V
namespace Go.V
theorem VS_join2 {P : Program} {N k0 : Nat} {a b c : SCode} {K : KK} {E : Env} {S : Store} (R : Env → Store → Prop)
    (h1 : VS P N k0 a (KThen (VS P N k0 b (KThen (fun E S => Bd k0 E S R) K)) K) E S) (h2 : ∀ E S, R E S → VS P N k0 c K E S) : VS P N k0 (.seq a (.seq b c)) K E S := by
  refine VS_seq (VS_mono h1 fun x E S hx => ?_)
  cases x with
  | normal => exact VS_join R hx h2
  | _ => exact hx
end Go.V
