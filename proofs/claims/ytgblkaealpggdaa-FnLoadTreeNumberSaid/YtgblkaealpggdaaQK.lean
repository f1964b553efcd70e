/- A part of the proofs about laws of the page tree (see the text that bears the law): a small language of steps, its rules, and what the functions of the program return. -/
import Derived.Test.YtgblkaealpggdaaQJ
set_option linter.all false
set_option linter.unusedVariables false
set_option linter.unusedSimpArgs false
namespace Go.V
/-! own lists that a call reads and that are own no more -/
theorem RDs_rho {ρ ρ' : Rho} {I : Nat → Prop} {w : World} : ∀ {vs : List Value} {ps : List PV}, RDs ρ I w vs (ps.map .pv) → RDs ρ' I w vs (ps.map .pv)
  | [], [], _ => trivial
  | _ :: _, _ :: _, h => ⟨rd_pv_rho h.1, RDs_rho h.2⟩
  | [], _ :: _, h => h.elim
  | _ :: _, [], h => h.elim
theorem CallS.frz {P : Program} {f : FuncId} {ds : List D} {ps : List PV} {ob : Ob} {c : D → Store → Prop} (h : CallS P f (ps.map .pv) [none] c) (hp : toRs 5 [some ob] ds = some ps) : CallS P f ds [some ob] c := fun ρ I w vs hs hv => by
  have hold : ∀ b, allI ρ I b → b < w.heap.size := fun b hb => by
    rcases hb with hb | ⟨o, sz, ho⟩
    · exact hs.old b hb
    · exact hs.lt o b sz ho
  have no : ∀ (o : Nat) (x : Ob), ([none] : Store)[o]? = some (some x) → False := fun o x ho => by
    cases o with
    | zero => simp at ho
    | succ o => simp at ho
  have hs' : St ρ (allI ρ I) w [none] := ⟨⟨hold, fun o x ho => (no o x ho).elim⟩, hs.len, hs.lt, fun o b sz x ho => (no o x ho).elim, fun o o' b sz sz' x x' ho => (no o x ho).elim⟩
  refine (h ρ (allI ρ I) w vs hs' (RDs_rho (RVs_RDs (toRs_sound hs hp hv)))).mono ?_
  rintro e w1 ⟨u, d, ρ1, I1, S1, he, hc, hs1, hu, hx⟩
  exact ⟨u, d, ρ1, I1, S1, he, hc, hs1, hu, ⟨hx.os, hx.tape, hx.output, hx.size, hx.kept, hx.block, fun b hb => hx.im b (.inl hb), fun b hb => (hx.inew b hb).elim (fun g => g.elim .inl fun ⟨o, sz, ho⟩ => .inr (.inr ⟨o, sz, ho⟩)) .inr, hx.rnew, hx.fix⟩⟩
def NewTe (P : Program) (f : FuncId) (pty : Nat) (args : List PV) (Q : Pt → PV → Prop) : Prop :=
  CallS P f (args.map .pv) [] (fun d S => ∃ T x R, Q T x ∧ d = .tup [treeD 0 T, .pv x] ∧ S = obD pty 3 (dG T.ps) :: R)
theorem NewTe.trim {P : Program} {f : FuncId} {pty : Nat} {args : List PV} {Q : Pt → PV → Prop} (h : NewTe P f pty args Q) : CallS P f (args.map .pv) [] (fun d S => ∃ T x, Q T x ∧ d = .tup [treeD 0 T, .pv x] ∧ S = [obD pty 3 (dG T.ps)]) := by
  refine CallS.bd h ?_
  rintro d S' ⟨T, x, R, hq, rfl, rfl⟩
  refine Bd.renL [0] (fun i hi => absurd hi (Nat.not_lt_zero i)) (by simp) [(0, .tup [treeD 0 T, .pv x])] ⟨tup_own (mpS_pv _ _) (mp1_own rfl), trivial⟩ (S' := [obD pty 3 (dG T.ps)]) ?_ ?_
  · show [(obD pty 3 (dG T.ps)).map (mpOb (inv [0]))] = _
    rw [obD_mG]
  · exact ⟨T, x, hq, rfl, rfl⟩
theorem NewTe.at {P : Program} {f : FuncId} {pty : Nat} {args : List PV} {Q : Pt → PV → Prop} (h : NewTe P f pty args Q) (S : Store) : CallS P f (args.map .pv) S (fun d S' => ∃ T x, Q T x ∧ d = .tup [treeD S.length T, .pv x] ∧ S' = S ++ [obD pty 3 (dG T.ps)]) := by
  refine CallS.frame (c1 := fun d S => ∃ T x, Q T x ∧ d = .tup [treeD 0 T, .pv x] ∧ S = [obD pty 3 (dG T.ps)]) [] (by simp) (by simp) ?_ ?_
  · rw [map_pv_inv]; exact h.trim
  · rintro d S1 ⟨T, x, hq, rfl, rfl⟩
    rw [mergeS_nil, tup_own (k := S.length) (mpS_pv _ _) (by rw [fwd_own' (k := 0), Nat.add_zero])]
    simp only [List.map_cons, List.map_nil, obD_mG]
    exact ⟨T, x, hq, rfl, rfl⟩
section q
variable {P : Program} {sf : SM} {r : RT} {L : List (Nat × D)} {S : Store} {K : Env → Store → Prop} {t : Nat}
end q
def RdT (P : Program) (f : FuncId) (ty pty : Nat) (bs : List Int) (p : Int) (args : List PV) (Q : Pt → Int → Prop) : Prop :=
  CallS P f (.ptr 0 0 0 :: args.map .pv) [some (rdr ty bs p)] (fun d S => ∃ T q R, Q T q ∧ d = treeD 1 T ∧ S = some (rdr ty bs q) :: obD pty 3 (dG T.ps) :: R)
theorem RdT.trim {P : Program} {f : FuncId} {ty pty : Nat} {bs : List Int} {p : Int} {args : List PV} {Q : Pt → Int → Prop} (h : RdT P f ty pty bs p args Q) :
    CallS P f (.ptr 0 0 0 :: args.map .pv) [some (rdr ty bs p)] (fun d S => ∃ T q, Q T q ∧ d = treeD 1 T ∧ S = [some (rdr ty bs q), obD pty 3 (dG T.ps)]) := by
  refine CallS.bd h ?_
  rintro d S' ⟨T, q, R, hq, rfl, rfl⟩
  refine Bd.renL [0, 1] (fun i hi => by have e : i = 0 := (by simp at hi; omega); subst e; rfl) (by simp) [(0, treeD 1 T)] ⟨tree_own (mp1_own rfl), trivial⟩ (S' := [some (rdr ty bs q), obD pty 3 (dG T.ps)]) ?_ ?_
  · show [(some (rdr ty bs q)).map (mpOb (inv [0, 1])), (obD pty 3 (dG T.ps)).map (mpOb (inv [0, 1]))] = _
    rw [obD_mG]; rfl
  · exact ⟨T, q, hq, rfl, rfl⟩
section q
variable {P : Program} {sf : SM} {r : RT} {L : List (Nat × D)} {S : Store} {K : Env → Store → Prop} {t : Nat}
end q
def okDropT (t : Pt) (k : Int) : Bool := validT t && (keysR (prV t)).contains k
end Go.V
namespace Go.V
theorem NewT.at {P : Program} {f : FuncId} {pty : Nat} {args : List PV} {t : Pt} (h : NewT P f pty args t) (S : Store) : CallS P f (args.map .pv) S (fun d S' => d = treeD S.length t ∧ S' = S ++ [obD pty 3 (dG t.ps)]) := by
  refine CallS.frame (c1 := fun d S => d = treeD 0 t ∧ S = [obD pty 3 (dG t.ps)]) [] (by simp) (by simp) ?_ ?_
  · rw [map_pv_inv]; exact h.trim
  · rintro d S1 ⟨rfl, rfl⟩
    rw [mergeS_nil, tree_own (k := S.length) (by rw [fwd_own' (k := 0), Nat.add_zero])]
    simp only [List.map_cons, List.map_nil, obD_mG]
    exact ⟨by first | trivial | rfl, by first | trivial | rfl⟩
section q
variable {P : Program} {sf : SM} {r : RT} {L : List (Nat × D)} {S : Store} {K : Env → Store → Prop} {t : Nat}
end q
end Go.V
namespace Go.V
def pvy : D → D
  | .own _ 0 => .pv (.sl [])
  | d => d
theorem R1.pvy {ρ : Rho} {I : Nat → Prop} {w : World} {v : Value} {d : D} (h : R1 ρ I w v d) : R1 ρ I w v (pvy d) := by
  cases d with
  | own o n =>
    cases n with
    | zero =>
      obtain ⟨b, sz, cap, cs, E, h1, rfl, h2, h3, h4⟩ := h
      exact (RC.sl0 _ cap h3 : RC I w _ _)
    | succ n => exact h
  | _ => exact h
/-! a call that is given an own list of numbers -/
section q
variable {P : Program} {sf : SM} {r : RT} {L : List (Nat × D)} {S : Store} {K : Env → Store → Prop} {t : Nat}
end q
structure AnyT (t : Pt) : Prop where
  many : t.ps.length ≤ 16
  sm : ∀ i, i < t.ps.length → (nth t.ps i).ks.length ≤ 100 ∧ (nth t.ps i).cs.length ≤ 100 ∧ (nth t.ps i).vs.length ≤ 100
theorem AnyT.small {t : Pt} (h : AnyT t) : smallT t := ⟨by have := h.many; omega, fun i h0 h2 => by
  have k := h.sm i.toNat (by omega)
  have e : pg t i = nth t.ps i.toNat := rfl
  rw [e]; omega⟩
theorem SafeT.any {t : Pt} (h : SafeT t) : AnyT t := ⟨h.many.2, fun i hi => by have := (h.bd i hi).ln; omega⟩
theorem AnyT.set {t : Pt} {i : Nat} {g : Pg} (h : AnyT t) (hg : g.ks.length ≤ 100 ∧ g.cs.length ≤ 100 ∧ g.vs.length ≤ 100) : AnyT ⟨t.r, t.ps.set i g⟩ := ⟨by have := h.many; simpa using this, fun j hj => by
  have hj' : j < t.ps.length := by simpa using hj
  show (nth (t.ps.set i g) j).ks.length ≤ 100 ∧ _
  rw [nth_set hj']
  split
  · exact hg
  · exact h.sm j hj'⟩
theorem AnyT.take {t : Pt} {m : Nat} (h : AnyT t) : AnyT ⟨t.r, t.ps.take m⟩ := ⟨by have := h.many; show (t.ps.take m).length ≤ 16; simp; omega, fun j hj => by
  have hj' : j < t.ps.length := by have hj2 : j < (t.ps.take m).length := hj; simp at hj2; omega
  show (nth (t.ps.take m) j).ks.length ≤ 100 ∧ _
  have e : nth (t.ps.take m) j = nth t.ps j := by
    have hj2 : j < (t.ps.take m).length := hj
    rw [nth_eq hj2, nth_eq hj', List.getElem_take]
  rw [e]; exact h.sm j hj'⟩
theorem AnyT.root {t : Pt} {r : Int} (h : AnyT t) : AnyT ⟨r, t.ps⟩ := ⟨h.many, h.sm⟩
theorem SafeT.bdI {t : Pt} (h : SafeT t) {i : Nat} (hi : i < t.ps.length) : bdI 1000 (nth t.ps i).ks ∧ bdI 1000 (nth t.ps i).cs ∧ bdI 1000 (nth t.ps i).vs := by
  have k := h.bd i hi
  exact ⟨bdI.mem.2 fun v hv => by have := k.ks v hv; omega, bdI.mem.2 fun v hv => by have := k.cs v hv; omega, bdI.mem.2 fun v hv => by have := k.vs v hv; omega⟩
end Go.V
namespace Go.V
end Go.V
