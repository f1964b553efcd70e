/- A part of the proofs about laws of the page tree (see the text that bears the law): a small language of steps, its rules, and what the functions of the program return. -/
import Derived.Test.YtjbihdcdamchnaaVM
set_option linter.all false
set_option linter.unusedVariables false
set_option linter.unusedSimpArgs false
namespace Go.V

/-- slots as a list; whatever is not named is unknown -/
def env : List (Nat × D) → Env
  | [], _ => .any
  | (t, d) :: L, i => match Nat.beq i t with
    | true => d
    | false => env L i
theorem env_cons (L : List (Nat × D)) (t i : Nat) (d : D) : env ((t, d) :: L) i = if i = t then d else env L i := by
  simp only [env]
  by_cases h : i = t
  · subst h; simp
  · have : Nat.beq i t = false := by cases hb : Nat.beq i t with
      | false => rfl
      | true => exact absurd (Nat.eq_of_beq_eq_true hb) h
    rw [this, if_neg h]
theorem put_env (L : List (Nat × D)) (t : Nat) (d : D) : put (env L) (some t) d = env ((t, d) :: L) := funext fun i => (env_cons L t i d).symm
theorem put_none (E : Env) (d : D) : put E none d = E := rfl
theorem env_hit (L : List (Nat × D)) (t : Nat) (d : D) : env ((t, d) :: L) t = d := by simp [env_cons]
theorem env_miss (L : List (Nat × D)) (t i : Nat) (d : D) (h : (i == t) = false) : env ((t, d) :: L) i = env L i := by
  have : i ≠ t := by simpa using h
  simp [env_cons, this]

def argL : Nat → List PV → List (Nat × D)
  | _, [] => []
  | k, p :: ps => (k, .pv p) :: argL (k + 1) ps

inductive SRes where
  | t (n : Nat)
  | c (a sz : Nat)
  deriving Inhabited

def slimRes (P : Program) : ResultVar → Option SRes
  | .tmp t => some (.t t)
  | .cell a T => if aggT P T = some true then (szT P T).map fun sz => .c a sz else none
def slimRess (P : Program) : List ResultVar → Option (List SRes)
  | [] => some []
  | r :: rs => match slimRes P r, slimRess P rs with
    | some x, some xs => some (x :: xs)
    | _, _ => none

def slimF (P : Program) (f : FuncId) (H : List (Nat × Nat) := []) : Option (Nat × SCode × List SRes) :=
  match P.funcs[f]? with
  | some fn => match fn.body with
    | some c => match slimC P fn.ntmps H c, slimRess P fn.results.toList with
      | some sc, some rs => some (fn.ntmps, sc, rs)
      | _, _ => none
    | none => none
  | none => none

def optMap (f : D → Option PV) : List D → Option (List PV)
  | [] => some []
  | d :: ds => match f d, optMap f ds with
    | some p, some ps => some (p :: ps)
    | _, _ => none
/-- pure in the end: own slices become pure ones -/
def toR : Nat → Store → D → Option PV
  | 0, _, _ => none
  | n + 1, S, d => match d with
    | .pv p => match p with
      | .tup _ => none
      | p => some p
    | .nils => some (.sl [])
    | .agg cs => (optMap (toR n S) cs).map .agg
    | .own o m => match S[o]? with
      | some (some ob) => if m ≤ ob.xs.length then (optMap (toR n S) (ob.xs.take m)).map .sl else none
      | _ => none
    | _ => none

def isAggD : D → Bool
  | .agg _ => true
  | .pv (.agg _) => true
  | _ => false
def headAgg : List D → Option D
  | d :: _ => if isAggD d then some d else none
  | [] => none

def resD (E : Env) (S : Store) : SRes → Option D
  | .t n => some (E n)
  | .c a sz => match E a with
    | .ptr o 0 0 => match S[o]? with
      | some (some ob) => if ob.sz = sz then headAgg ob.xs else none
      | _ => none
    | _ => none

def resPVs (E : Env) (S : Store) : List SRes → Option (List PV)
  | [] => some []
  | r :: rs => match resD E S r with
    | some d => match toR 5 S d, resPVs E S rs with
      | some p, some ps => some (p :: ps)
      | _, _ => none
    | none => none

def resPV (E : Env) (S : Store) (rs : List SRes) : Option PV :=
  match resPVs E S rs with
  | some [p] => some p
  | some ps => some (.tup ps)
  | none => none

def KRet (rs : List SRes) (Post : PV → Prop) : KK
  | .ret, E, S => Bd 0 E S fun E S => ∃ p, resPV E S rs = some p ∧ Post p
  | .normal, E, S => Bd 0 E S fun E S => ∃ p, resPV E S rs = some p ∧ Post p
  | _, _, _ => False

def isTupD : D → Bool
  | .tup _ => true
  | .pv (.tup _) => true
  | _ => false
def resDs (E : Env) (S : Store) : List SRes → Option (List D)
  | [] => some []
  | r :: rs => match resD E S r, resDs E S rs with
    | some d, some ds => if isTupD d then none else some (d :: ds)
    | _, _ => none
def resAll (E : Env) (S : Store) (rs : List SRes) : Option D :=
  match resDs E S rs with
  | some [d] => some d
  | some ds => some (.tup ds)
  | none => none
def KRetD (k0 : Nat) (rs : List SRes) (c : D → Store → Prop) : KK
  | .ret, E, S => Bd k0 E S fun E S => ∃ d, resAll E S rs = some d ∧ c d S
  | .normal, E, S => Bd k0 E S fun E S => ∃ d, resAll E S rs = some d ∧ c d S
  | _, _, _ => False

section toR
variable {ρ : Rho} {I : Nat → Prop} {w : World} {S : Store}
/-- all that may be read in the end -/
def allI (ρ : Rho) (I : Nat → Prop) : Nat → Prop := fun b => I b ∨ ∃ o sz : Nat, ρ[o]? = some (some (b, sz))

theorem rs_sound {n : Nat} (ih : ∀ {d : D} {p : PV} {vs : List Value}, toR n S d = some p → RDc ρ I w vs d → RC (allI ρ I) w vs p) :
    ∀ {ds : List D} {ps : List PV}, optMap (toR n S) ds = some ps → ps.length = ds.length ∧ ∀ i (h : i < ds.length) (h' : i < ps.length) (vs : List Value), RDc ρ I w vs ds[i] → RC (allI ρ I) w vs ps[i]
  | [], ps, h => by simp [optMap] at h; subst h; simp
  | d :: ds, ps, h => by
    simp only [optMap] at h
    split at h <;> simp at h
    rename_i p ps' h1 h2
    subst h
    obtain ⟨h3, h4⟩ := rs_sound ih h2
    refine ⟨by simp [h3], fun i hi hi' vs hv => ?_⟩
    cases i with
    | zero => exact ih h1 hv
    | succ i => exact h4 i (by simpa using hi) (by simpa using hi') vs hv

theorem rdc_of_r1 {v : Value} {d : D} (h : R1 ρ I w v d) (hd : ∀ cs, d ≠ .agg cs) : RDc ρ I w [v] d := by
  cases d with
  | agg cs => exact absurd rfl (hd cs)
  | pv p => exact h
  | _ => exact ⟨v, rfl, h⟩

theorem toR_sound (hs : St ρ I w S) : ∀ {n : Nat} {d : D} {p : PV} {vs : List Value}, toR n S d = some p → RDc ρ I w vs d → RC (allI ρ I) w vs p
  | 0, d, p, vs, h, _ => by simp [toR] at h
  | n + 1, d, p, vs, h, hr => by
    have IH := @toR_sound hs n
    cases d with
    | pv q =>
      have : q = p := by cases q <;> simp [toR] at h <;> exact h
      subst this
      exact RC.mono (fun b hb => .inl hb) (fun _ _ => rfl) hr
    | nils =>
      simp [toR] at h; subst h
      obtain ⟨v, rfl, a, rfl⟩ := hr
      exact .sl0 a 0 (Nat.zero_le _)
    | agg cs =>
      simp only [toR, Option.map_eq_some_iff] at h
      obtain ⟨ps, h1, rfl⟩ := h
      obtain ⟨h2, h3⟩ := rs_sound IH h1
      refine .agg vs ps (by rw [h2]; exact hr.1) fun i hi hi' => ?_
      have h4 := hr.2 i hi (by omega)
      refine h3 i (by omega) hi' _ (rdc_of_r1 h4 fun cs' e => ?_)
      rw [e] at h4
      exact h4.elim
    | own o m =>
      simp only [toR] at h
      split at h
      · rename_i ob hob
        split at h
        · rename_i hm
          obtain ⟨ps, h1, rfl⟩ := Option.map_eq_some_iff.1 h
          obtain ⟨h2, h3⟩ := rs_sound IH h1
          obtain ⟨v, rfl, hv⟩ := hr
          obtain ⟨b, sz, cap, cs, E, g1, rfl, g3, g4, g5, g6⟩ := hv
          obtain ⟨b', sz', k1, k2, cs', k3, k4, k5⟩ := hs.obs o ob hob
          rw [g1] at k1
          simp at k1
          obtain ⟨rfl, rfl⟩ := k1
          have hpl : ps.length = m := by rw [h2]; simp [hm]
          refine .sl ps b 0 cap sz m (fun i => (cs'.toList.drop (i * sz)).take sz) hpl.symm g3 g4 (.inr ⟨o, sz, g1⟩) (fun i hi => ?_) (fun i hi => ?_) (fun i hi => ?_)
          · have : (i + 1) * sz ≤ ob.xs.length * sz := Nat.mul_le_mul_right _ (by omega)
            rw [Nat.add_mul] at this
            simp; omega
          · intro j hj
            have hj' : j < sz ∧ i * sz + j < cs'.size := by simp at hj; omega
            simp only [World.cell?, k3, Option.isSome_none, Bool.false_eq_true, if_false, Nat.zero_add]
            rw [Array.getElem?_eq_getElem hj'.2]
            simp
          · have := k5 i (by omega)
            refine h3 i (by simp; omega) hi _ ?_
            simpa using this
        · simp at h
      · simp at h
    | _ => simp [toR] at h

theorem toR_rd (hs : St ρ I w S) {n : Nat} {d : D} {p : PV} {v : Value} (h : toR n S d = some p) (hr : RD ρ I w v d) : RD [] (allI ρ I) w v (.pv p) := by
  cases n with
  | zero => simp [toR] at h
  | succ n =>
    have single : ∀ d, (∀ cs, d ≠ .agg cs) → isAggP p = false → toR (n + 1) S d = some p → R1 ρ I w v d → RD [] (allI ρ I) w v (.pv p) := fun d hd hp h h1 =>
      (rd_pv hp).2 (toR_sound hs h (rdc_of_r1 h1 hd))
    cases d with
    | pv q =>
      have : q = p := by cases q <;> simp [toR] at h <;> exact h
      subst this
      have : RD [] I w v (.pv q) := rd_pv_rho hr
      exact RD.mono (I' := allI ρ I) (fun b hb => .inl hb) ⟨fun _ _ => rfl, fun o b sz ho => by simp at ho⟩ this
    | nils => exact single .nils (by simp) (by simp [toR] at h; subst h; rfl) h hr
    | agg cs =>
      obtain ⟨vs, rfl, h1⟩ := rd_dagg.1 hr
      have := toR_sound hs h (vs := vs) h1
      simp only [toR, Option.map_eq_some_iff] at h
      obtain ⟨ps, _, rfl⟩ := h
      exact rd_agg.2 ⟨vs, rfl, this⟩
    | own o m => exact single (.own o m) (by simp) (by simp only [toR] at h; split at h <;> (try split at h) <;> simp at h; obtain ⟨ps, _, rfl⟩ := h; rfl) h hr
    | _ => simp [toR] at h
end toR

theorem toR_tup {n : Nat} {S : Store} {d : D} {ps : List PV} (h : toR n S d = some (.tup ps)) : False := by
  cases n with
  | zero => simp [toR] at h
  | succ n =>
    cases d with
    | pv q => cases q <;> simp [toR] at h
    | own o m => simp only [toR] at h; split at h <;> (try split at h) <;> simp at h
    | _ => simp [toR] at h

/-- one result -/
theorem resD_sound {P : Program} {ρ : Rho} {I : Nat → Prop} {w : World} {S : Store} {a : Act} {E : Env} {r : ResultVar} {x : SRes} {d : D} (h : slimRes P r = some x) (hd : resD E S x = some d) (hs : St ρ I w S) (he : ER ρ I w a E) :
    ∃ u, RD ρ I w u d ∧ (match r with | .tmp t => (pure (a.tmps.getD t Go.undef) : Sem Value) | .cell c t => do loadVar t (← asAddr (a.tmps.getD c Go.undef))).run P w = .ok u w := by
  cases r with
  | tmp t =>
    simp [slimRes] at h; subst h
    simp [resD] at hd; subst hd
    exact ⟨_, he t, rfl⟩
  | cell c T =>
    simp only [slimRes] at h
    split at h
    · rename_i hagg
      obtain ⟨sz, hsz, rfl⟩ := Option.map_eq_some_iff.1 h
      simp only [resD] at hd
      split at hd
      · rename_i o e1
        split at hd
        · rename_i ob hob
          split at hd
          · rename_i hobs
            have hx : ∃ tl, ob.xs = d :: tl ∧ isAggD d = true := by cases hxs : ob.xs with
              | nil => rw [hxs] at hd; simp [headAgg] at hd
              | cons y tl => rw [hxs] at hd; simp only [headAgg] at hd; split at hd <;> simp at hd; subst hd; rename_i hy; exact ⟨tl, rfl, hy⟩
            obtain ⟨tl, hxs, hagd⟩ := hx
            have h1 := he c
            rw [e1, rd_ptr] at h1
            obtain ⟨b, sz', h2, h3⟩ := h1
            obtain ⟨b', sz'', h4, h5, cells, h6, h7, h8⟩ := hs.obs o ob hob
            rw [h2] at h4
            simp at h4
            obtain ⟨rfl, rfl⟩ := h4
            have hlen : 0 < ob.xs.length := by rw [hxs]; simp
            have h9 := h8 0 hlen
            have hx0 : ob.xs[0] = d := by simp [hxs]
            rw [hx0] at h9
            simp only [Nat.zero_mul, List.drop_zero] at h9
            have hszl : sz' ≤ cells.size := by
              have : 1 * sz' ≤ ob.xs.length * sz' := Nat.mul_le_mul_right _ hlen
              omega
            have hcell : CellsAt w b 0 (cells.toList.take sz') := by
              intro q hq
              have hq' : q < sz' ∧ q < cells.size := by simp at hq; omega
              simp only [World.cell?, h6, Option.isSome_none, Bool.false_eq_true, if_false, Nat.zero_add]
              rw [Array.getElem?_eq_getElem hq'.2]
              simp
            have hl : (cells.toList.take sz').length = sz' := by simp; omega
            have hrun := run_loadVar (P := P) hagg (by rw [hl, hsz]; congr 1; omega) hcell (by simp)
            refine ⟨.agg (cells.toList.take sz').toArray, ?_, ?_⟩
            · cases d with
              | agg cs => exact rd_dagg.2 ⟨_, rfl, h9⟩
              | pv p => cases p <;> first | (simp [isAggD] at hagd; done) | exact rd_agg.2 ⟨_, rfl, h9⟩
              | _ => simp [isAggD] at hagd
            · simp only [Nat.zero_mul, Nat.add_zero] at h3
              simp only [Sem.run_bind, h3, asAddr, Sem.run_pure, Result.andThen_ok, hrun, if_true]
          · simp at hd
        · simp at hd
      · simp at hd
    · simp at h

def resOne (tmps : Array Value) : ResultVar → Sem Value
  | .tmp t => pure (tmps.getD t Go.undef)
  | .cell a t => do loadVar t (← asAddr (tmps.getD a Go.undef))
theorem results_eq (fn : Func) (tmps : Array Value) : results fn tmps = (do let vs ← fn.results.mapM (resOne tmps); pure (if h : vs.size = 1 then vs[0] else .tuple vs)) := rfl

theorem ress_sound {P : Program} {ρ : Rho} {I : Nat → Prop} {w : World} {S : Store} {a : Act} {E : Env} (hs : St ρ I w S) (he : ER ρ I w a E) :
    ∀ {rs : List ResultVar} {xs : List SRes} {ps : List PV}, slimRess P rs = some xs → resPVs E S xs = some ps →
      ∃ us : List Value, us.length = ps.length ∧ (∀ i (h : i < us.length) (h' : i < ps.length), RD [] (allI ρ I) w us[i] (.pv ps[i]) ∧ ∀ qs, ps[i] ≠ .tup qs) ∧
        (rs.mapM (resOne a.tmps)).run P w = .ok us w
  | [], xs, ps, h, h2 => by simp [slimRess] at h; subst h; simp [resPVs] at h2; subst h2; exact ⟨[], rfl, by simp, rfl⟩
  | r :: rs, xs, ps, h, h2 => by
    simp only [slimRess] at h
    split at h <;> simp at h
    rename_i x xs' h3 h4
    subst h
    simp only [resPVs] at h2
    split at h2
    · rename_i d hd
      split at h2 <;> simp at h2
      rename_i p ps' h5 h6
      subst h2
      obtain ⟨u, g1, g2⟩ := resD_sound (P := P) h3 hd hs he
      obtain ⟨us, g3, g4, g5⟩ := ress_sound hs he h4 h6
      refine ⟨u :: us, by simp [g3], fun i hi hi' => ?_, ?_⟩
      · cases i with
        | zero => exact ⟨toR_rd hs h5 g1, fun qs e => by simp only [List.getElem_cons_zero] at e; subst e; exact toR_tup h5⟩
        | succ i => exact g4 i (by simpa using hi) (by simpa using hi')
      · rw [List.mapM_cons]
        have g2' : (resOne a.tmps r).run P w = .ok u w := by cases r <;> exact g2
        simp only [Sem.run_bind, g2', Result.andThen_ok, g5, Sem.run_pure]
    · simp at h2

theorem env_argL {I : Nat → Prop} {w : World} : ∀ {vs : List Value} {ps : List PV} {k : Nat} {a : Act}, RVs I w vs ps → (∀ i (h : i < vs.length), a.tmps.getD (k + i) Go.undef = vs[i]) → ER [] I w a (env (argL k ps))
  | [], [], k, a, _, _ => fun t => by simp [argL, env]; exact rd_any
  | v :: vs, p :: ps, k, a, h, ha => fun t => by
    simp only [argL, env_cons]
    split
    · rename_i e
      have := ha 0 (by simp)
      simp only [Nat.add_zero, List.getElem_cons_zero] at this
      rw [e, this]
      exact h.1
    · exact env_argL (k := k + 1) h.2 (fun i hi => by have := ha (i + 1) (by simpa using hi); rw [Nat.add_assoc, Nat.add_comm 1 i]; simpa using this) t
  | [], _ :: _, _, _, h, _ => h.elim
  | _ :: _, [], _, _, h, _ => h.elim

theorem RVs_len {I : Nat → Prop} {w : World} : ∀ {vs : List Value} {ps : List PV}, RVs I w vs ps → vs.length = ps.length
  | [], [], _ => rfl
  | _ :: vs, _ :: ps, h => by simp [RVs_len h.2]
  | [], _ :: _, h => h.elim
  | _ :: _, [], h => h.elim

/-- **A CONTRACT, BY THE LOGIC.** -/
theorem con_of_VS {P : Program} {f : FuncId} {N : Nat} {sc : SCode} {rs : List SRes} {ps : List PV} {Post : PV → Prop} {H : List (Nat × Nat)} (hf : slimF P f H = some (N, sc, rs)) (hn : ps.length ≤ N)
    (h : VS P N 0 sc (KRet rs Post) (env (argL 0 ps)) []) : PCon P f ps Post := by
  unfold slimF at hf
  split at hf
  · rename_i fn hfn
    split at hf
    · rename_i c hc
      split at hf <;> simp at hf
      rename_i sc' rs' h1 h2
      obtain ⟨e1, e2, e3⟩ := hf
      subst e1 e2 e3
      intro I w vs hI hv
      have hlen := RVs_len hv
      have hst : St [] I w [] := ⟨⟨hI, by simp⟩, rfl, by simp, by simp, by simp⟩
      refine calls_of_wp hfn hc ?_
      have hsz : (vs.toArray ++ Array.replicate (fn.ntmps - vs.toArray.size) Go.undef).size = fn.ntmps := by simp; omega
      have her : ER [] I w { tmps := vs.toArray ++ Array.replicate (fn.ntmps - vs.toArray.size) Go.undef, defers := [] } (env (argL 0 ps)) :=
        env_argL hv fun i hi => by
          simp only [Nat.zero_add, Array.getD_eq_getD_getElem?]
          rw [Array.getElem?_append_left (by simpa using hi)]
          simp [hi]
      refine wp_mono (h H c h1 [] I w _ hst her hsz rfl (Nat.zero_le _)) fun x a' w' hx => ?_
      have fin : ∀ E S, (∃ p, resPV E S rs' = some p ∧ Post p) → ∀ ρ' I', St ρ' I' w' S → ER ρ' I' w' a' E → Ext 0 [] I w ρ' I' w' →
          ∃ v, (results fn a'.tmps).run P w' = .ok v w' ∧ ∃ u p I', Ending.returned v = .returned u ∧ Post p ∧ Grow I w I' w' ∧ RD [] I' w' u (ofPV p) := by
        intro E S hp ρ' I' hs he hext
        obtain ⟨p, hp, hpost⟩ := hp
        unfold resPV at hp
        have hgrow : Grow I w (allI ρ' I') w' := {
          os := hext.os
          tape := hext.tape
          output := hext.output
          size := hext.size
          block := fun k hk => hext.block k hk (by simp)
          imono := fun b hb => .inl (hext.im b hb).1
          inew := fun b hb => by
            rcases hb with hb | ⟨o, sz, ho⟩
            · rcases hext.inew b hb with h1 | h1 | ⟨o, sz, h1⟩
              · exact .inl h1
              · exact .inr ⟨h1, hs.old b hb⟩
              · simp at h1
            · rcases hext.rnew o b sz ho with ⟨o', sz', h1⟩ | h1
              · simp at h1
              · exact .inr ⟨h1, hs.lt o b sz ho⟩ }
        have main : ∀ ps, resPVs E S rs' = some ps → ∃ us : List Value, us.length = ps.length ∧ (∀ i (h : i < us.length) (h' : i < ps.length), RD [] (allI ρ' I') w' us[i] (.pv ps[i]) ∧ ∀ qs, ps[i] ≠ .tup qs) ∧
            (results fn a'.tmps).run P w' = .ok (if h : us.toArray.size = 1 then us.toArray[0] else .tuple us.toArray) w' := fun ps h => by
          obtain ⟨us, g1, g2, g3⟩ := ress_sound hs he h2 h
          refine ⟨us, g1, g2, ?_⟩
          rw [results_eq, Array.mapM_eq_mapM_toList]
          simp only [Sem.run_bind, Sem.run_map, g3, Result.andThen_ok, Sem.run_pure]
        split at hp
        · rename_i q hq
          simp at hp; subst hp
          obtain ⟨us, g1, g2, g3⟩ := main _ hq
          match us, g1 with
          | [u], _ =>
            refine ⟨u, g3, u, q, _, rfl, hpost, hgrow, ?_⟩
            obtain ⟨g4, g5⟩ := g2 0 (by simp) (by simp)
            simp only [List.getElem_cons_zero] at g4 g5
            have : ofPV q = .pv q := by cases q <;> first | rfl | exact absurd rfl (g5 _)
            rw [this]
            exact g4
        · rename_i qs hne hq
          simp at hp; subst hp
          obtain ⟨us, g1, g2, g3⟩ := main _ hq
          have hne1 : ¬ us.toArray.size = 1 := by
            intro e
            match qs, g1 with
            | [q], _ => exact hne q rfl
            | [], g1 => simp at e; simp [e] at g1
            | _ :: _ :: _, g1 => simp at e; simp [e] at g1
          rw [dif_neg hne1] at g3
          refine ⟨_, g3, _, _, _, rfl, hpost, hgrow, ?_⟩
          refine ⟨us, rfl, by simpa using g1, fun i hi hi' => ?_⟩
          have hi2 : i < qs.length := by simpa using hi'
          obtain ⟨g4, g5⟩ := g2 i hi hi2
          simp only [List.getElem_map]
          generalize qs[i] = q at *
          cases q <;> first | exact g4 | exact absurd rfl (g5 _)
        · simp at hp
      obtain ⟨E', S', ρ', I', q1, q2, q3, q4, q5, q6⟩ := hx
      cases x with
      | normal =>
        obtain ⟨E2, S2, ρ2, I2, r1, r2, r3, r4⟩ := q1 ρ' I' w' a' q2 q3 (Nat.zero_le _)
        obtain ⟨v, h3, h4⟩ := fin E2 S2 r1 ρ2 I2 r2 r3 (q6.trans r4)
        exact ⟨q5, v, h3, h4⟩
      | ret =>
        obtain ⟨E2, S2, ρ2, I2, r1, r2, r3, r4⟩ := q1 ρ' I' w' a' q2 q3 (Nat.zero_le _)
        obtain ⟨v, h3, h4⟩ := fin E2 S2 r1 ρ2 I2 r2 r3 (q6.trans r4)
        exact ⟨q5, v, h3, h4⟩
      | _ => exact q1.elim
    · simp at hf
  · simp at hf


def argD : Nat → List D → List (Nat × D)
  | _, [] => []
  | k, p :: ps => (k, p) :: argD (k + 1) ps
theorem env_argD {ρ : Rho} {I : Nat → Prop} {w : World} : ∀ {vs : List Value} {ds : List D} {k : Nat} {a : Act}, RDs ρ I w vs ds → (∀ i (h : i < vs.length), a.tmps.getD (k + i) Go.undef = vs[i]) → ER ρ I w a (env (argD k ds))
  | [], [], k, a, _, _ => fun t => by simp [argD, env]; exact rd_any
  | v :: vs, p :: ps, k, a, h, ha => fun t => by
    simp only [argD, env_cons]
    split
    · rename_i e
      have := ha 0 (by simp)
      simp only [Nat.add_zero, List.getElem_cons_zero] at this
      rw [e, this]
      exact h.1
    · exact env_argD (k := k + 1) h.2 (fun i hi => by have := ha (i + 1) (by simpa using hi); rw [Nat.add_assoc, Nat.add_comm 1 i]; simpa using this) t
  | [], _ :: _, _, _, h, _ => h.elim
  | _ :: _, [], _, _, h, _ => h.elim
theorem RDs_len {ρ : Rho} {I : Nat → Prop} {w : World} : ∀ {vs : List Value} {ps : List D}, RDs ρ I w vs ps → vs.length = ps.length
  | [], [], _ => rfl
  | _ :: vs, _ :: ps, h => by simp [RDs_len h.2]
  | [], _ :: _, h => h.elim
  | _ :: _, [], h => h.elim

theorem rs_of_rd {ρ : Rho} {I : Nat → Prop} {w : World} {v : Value} {d : D} (h : RD ρ I w v d) (hd : isTupD d = false) : RS ρ I w v d := by
  cases d <;> first | exact h | simp [isTupD] at hd

theorem resDs_sound {P : Program} {ρ : Rho} {I : Nat → Prop} {w : World} {S : Store} {a : Act} {E : Env} (hs : St ρ I w S) (he : ER ρ I w a E) :
    ∀ {rs : List ResultVar} {xs : List SRes} {ds : List D}, slimRess P rs = some xs → resDs E S xs = some ds →
      ∃ us : List Value, us.length = ds.length ∧ (∀ i (h : i < us.length) (h' : i < ds.length), RD ρ I w us[i] ds[i] ∧ isTupD ds[i] = false) ∧
        (rs.mapM (resOne a.tmps)).run P w = .ok us w
  | [], xs, ds, h, h2 => by simp [slimRess] at h; subst h; simp [resDs] at h2; subst h2; exact ⟨[], rfl, by simp, rfl⟩
  | r :: rs, xs, ds, h, h2 => by
    simp only [slimRess] at h
    split at h <;> simp at h
    rename_i x xs' h3 h4
    subst h
    simp only [resDs] at h2
    split at h2
    · rename_i d ds' hd h6
      split at h2 <;> simp at h2
      rename_i h5
      subst h2
      obtain ⟨u, g1, g2⟩ := resD_sound (P := P) h3 hd hs he
      obtain ⟨us, g3, g4, g5⟩ := resDs_sound hs he h4 h6
      refine ⟨u :: us, by simp [g3], fun i hi hi' => ?_, ?_⟩
      · cases i with
        | zero => exact ⟨g1, by simpa using h5⟩
        | succ i => exact g4 i (by simpa using hi) (by simpa using hi')
      · rw [List.mapM_cons]
        have g2' : (resOne a.tmps r).run P w = .ok u w := by cases r <;> exact g2
        simp only [Sem.run_bind, g2', Result.andThen_ok, g5, Sem.run_pure]
    · simp at h2

/-- **A CONTRACT OVER OWN OBJECTS, BY THE LOGIC.** -/
theorem callS_of_VS {P : Program} {f : FuncId} {N : Nat} {sc : SCode} {rs : List SRes} {ds : List D} {S : Store} {c : D → Store → Prop} {H : List (Nat × Nat)} (hf : slimF P f H = some (N, sc, rs)) (hn : ds.length ≤ N)
    (h : VS P N S.length sc (KRetD S.length rs c) (env (argD 0 ds)) S) : CallS P f ds S c := by
  unfold slimF at hf
  split at hf
  · rename_i fn hfn
    split at hf
    · rename_i cd hc
      split at hf <;> simp at hf
      rename_i sc' rs' h1 h2
      obtain ⟨e1, e2, e3⟩ := hf
      subst e1 e2 e3
      intro ρ I w vs hst hv
      have hlen := RDs_len hv
      refine calls_of_wp hfn hc ?_
      have hsz : (vs.toArray ++ Array.replicate (fn.ntmps - vs.toArray.size) Go.undef).size = fn.ntmps := by simp; omega
      have her : ER ρ I w { tmps := vs.toArray ++ Array.replicate (fn.ntmps - vs.toArray.size) Go.undef, defers := [] } (env (argD 0 ds)) :=
        env_argD hv fun i hi => by
          simp only [Nat.zero_add, Array.getD_eq_getD_getElem?]
          rw [Array.getElem?_append_left (by simpa using hi)]
          simp [hi]
      refine wp_mono (h H cd h1 ρ I w _ hst her hsz rfl (Nat.le_refl _)) fun x a' w' hx => ?_
      have fin : ∀ E S', (∃ d, resAll E S' rs' = some d ∧ c d S') → ∀ ρ' I', St ρ' I' w' S' → ER ρ' I' w' a' E → Ext S.length ρ I w ρ' I' w' →
          ∃ v, (results fn a'.tmps).run P w' = .ok v w' ∧ ∃ u d ρ' I' S', Ending.returned v = .returned u ∧ c d S' ∧ St ρ' I' w' S' ∧ RD ρ' I' w' u d ∧ Ext S.length ρ I w ρ' I' w' := by
        intro E S' hp ρ' I' hs he hext
        obtain ⟨d, hp, hpost⟩ := hp
        unfold resAll at hp
        have main : ∀ ds, resDs E S' rs' = some ds → ∃ us : List Value, us.length = ds.length ∧ (∀ i (h : i < us.length) (h' : i < ds.length), RD ρ' I' w' us[i] ds[i] ∧ isTupD ds[i] = false) ∧
            (results fn a'.tmps).run P w' = .ok (if h : us.toArray.size = 1 then us.toArray[0] else .tuple us.toArray) w' := fun ps h => by
          obtain ⟨us, g1, g2, g3⟩ := resDs_sound hs he h2 h
          refine ⟨us, g1, g2, ?_⟩
          rw [results_eq, Array.mapM_eq_mapM_toList]
          simp only [Sem.run_bind, Sem.run_map, g3, Result.andThen_ok, Sem.run_pure]
        split at hp
        · rename_i q hq
          simp at hp; subst hp
          obtain ⟨us, g1, g2, g3⟩ := main _ hq
          match us, g1 with
          | [u], _ =>
            refine ⟨u, g3, u, q, ρ', I', S', rfl, hpost, hs, ?_, hext⟩
            exact (g2 0 (by simp) (by simp)).1
        · rename_i qs hne hq
          simp at hp; subst hp
          obtain ⟨us, g1, g2, g3⟩ := main _ hq
          have hne1 : ¬ us.toArray.size = 1 := by
            intro e
            match qs, g1 with
            | [q], _ => exact hne q rfl
            | [], g1 => simp at e; simp [e] at g1
            | _ :: _ :: _, g1 => simp at e; simp [e] at g1
          rw [dif_neg hne1] at g3
          refine ⟨_, g3, _, _, ρ', I', S', rfl, hpost, hs, ?_, hext⟩
          exact ⟨us, rfl, g1, fun i hi hi' => by
            obtain ⟨g4, g5⟩ := g2 i hi hi'
            exact rs_of_rd g4 g5⟩
        · simp at hp
      obtain ⟨E', S', ρ', I', q1, q2, q3, q4, q5, q6⟩ := hx
      have hk := kept_of hst q2 q6 (Nat.le_refl _)
      cases x with
      | normal =>
        obtain ⟨E2, S2, ρ2, I2, r1, r2, r3, r4⟩ := q1 ρ' I' w' a' q2 q3 hk
        obtain ⟨v, h3, h4⟩ := fin E2 S2 r1 ρ2 I2 r2 r3 (q6.trans r4)
        exact ⟨q5, v, h3, h4⟩
      | ret =>
        obtain ⟨E2, S2, ρ2, I2, r1, r2, r3, r4⟩ := q1 ρ' I' w' a' q2 q3 hk
        obtain ⟨v, h3, h4⟩ := fin E2 S2 r1 ρ2 I2 r2 r3 (q6.trans r4)
        exact ⟨q5, v, h3, h4⟩
      | _ => exact q1.elim
    · simp at hf
  · simp at hf

/-! in between -/
section bd
variable {k0 : Nat} {E : Env} {S : Store} {R : Env → Store → Prop}
theorem Bd.now (h : R E S) : Bd k0 E S R := fun ρ I _ _ hs he _ => ⟨E, S, ρ, I, h, hs, he, Ext.refl _ _ _ _⟩
theorem Bd.then {R' : Env → Store → Prop} (h : Bd k0 E S R') (h2 : ∀ E S, R' E S → Bd k0 E S R) : Bd k0 E S R := fun ρ I w a hs he hk => by
  obtain ⟨E', S', ρ', I', h3, h4, h5, h6⟩ := h ρ I w a hs he hk
  obtain ⟨E2, S2, ρ2, I2, g3, g4, g5, g6⟩ := h2 E' S' h3 ρ' I' w a h4 h5 (kept_of hs h4 h6 hk)
  exact ⟨E2, S2, ρ2, I2, g3, g4, g5, h6.trans g6⟩
theorem Bd.len {t : Nat} {xs : List PV} (ht : E t = .pv (.sl xs)) (h : xs.length ≤ maxLen → Bd k0 E S R) : Bd k0 E S R := fun ρ I w a hs he hk => by
  have := he t
  rw [ht] at this
  obtain ⟨_, cap, _, h1, h2⟩ := rd_sl' this
  exact h (Nat.le_trans h1 h2) ρ I w a hs he hk
theorem env_er {ρ : Rho} {I : Nat → Prop} {w : World} {a : Act} (L : List (Nat × D)) (h : ∀ p ∈ L, RD ρ I w (a.tmps.getD p.1 Go.undef) p.2) : ER ρ I w a (env L) := fun t => by
  induction L with
  | nil => exact rd_any
  | cons p L ih =>
    obtain ⟨i, d⟩ := p
    simp only [env_cons]
    split
    · rename_i e
      rw [e]
      exact h (i, d) (by simp)
    · exact ih fun p hp => h p (by simp [hp])
theorem Bd.keep (L : List (Nat × D)) (h1 : ∀ p ∈ L, E p.1 = p.2) (h : R (env L) S) : Bd k0 E S R := fun ρ I w a hs he _ => by
  refine ⟨env L, S, ρ, I, h, hs, env_er L fun p hp => ?_, Ext.refl _ _ _ _⟩
  rw [← h1 p hp]
  exact he p.1
/-- objects numbered anew; the others are forgotten -/
theorem Bd.ren (os : List Nat) (h0 : ∀ i, i < k0 → os[i]? = some i) (hnd : os.Nodup) (L : List (Nat × D)) (h1 : ∀ p ∈ L, mpD (inv os) (E p.1) = p.2) (h : R (env L) (subS os S)) : Bd k0 E S R := fun ρ I w a hs he _ => by
  refine ⟨env L, subS os S, subR os ρ, I, h, sub_st hs hnd, env_er L fun p hp => ?_, ?_⟩
  · rw [← h1 p hp]
    exact RD.mp sub_mp (he p.1)
  · exact {
      os := rfl
      tape := rfl
      output := rfl
      size := Nat.le_refl _
      kept := by
        have : k0 ≤ os.length := by
          rcases Nat.eq_zero_or_pos k0 with h | h
          · omega
          · have := (List.getElem?_eq_some_iff.1 (h0 (k0 - 1) (by omega))).1; omega
        simp [subR]; omega
      block := fun _ _ _ => rfl
      im := fun _ h => ⟨h, rfl⟩
      inew := fun _ h => .inl h
      rnew := fun o b sz ho => by
        obtain ⟨o', _, h2⟩ := subR_get.1 ho
        exact .inl ⟨o', sz, h2⟩
      fix := fun o b sz ho hr => ⟨subR_get.2 ⟨o, h0 o ho, hr⟩, fun cs _ hc => ⟨cs, hc, rfl⟩⟩ }

/-! an own object becomes pure -/
def frz (o : Nat) (ps : List PV) : D → D
  | .own o' n => if o' = o then (if n ≤ ps.length then .pv (.sl (ps.take n)) else .any) else .own o' n
  | .sub o' off n cap => if o' = o then .any else .sub o' off n cap
  | .ptr o' i j => if o' = o then (if j = 0 then (match ps[i]? with | some p => .pv (.con p) | none => .any) else .any) else .ptr o' i j
  | d => d
def frzS (o : Nat) (ps : List PV) (S : Store) : Store := (S.set o none).map (Option.map (mpOb (frz o ps)))

theorem toPVs_get : ∀ {ds : List D} {ps : List PV}, toPVs ds = some ps → ps.length = ds.length ∧ ∀ i (h : i < ds.length) (h' : i < ps.length), toPV ds[i] = some ps[i]
  | [], ps, h => by simp [toPVs] at h; subst h; simp
  | d :: ds, ps, h => by
    simp only [toPVs] at h
    split at h <;> simp at h
    rename_i p ps' h1 h2
    subst h
    obtain ⟨h3, h4⟩ := toPVs_get h2
    refine ⟨by simp [h3], fun i hi hi' => ?_⟩
    cases i with
    | zero => exact h1
    | succ i => exact h4 i (by simpa using hi) (by simpa using hi')

theorem toPV_rdc {ρ : Rho} {I : Nat → Prop} {w : World} {vs : List Value} {d : D} {p : PV} (h : toPV d = some p) (hd : RDc ρ I w vs d) : RC I w vs p := by
  cases d with
  | agg cs =>
    simp only [toPV, Option.map_eq_some_iff] at h
    obtain ⟨ps, h1, rfl⟩ := h
    obtain ⟨h2, h3⟩ := toPV1s_sound h1 hd.1 hd.2
    exact .agg vs ps h2 fun i hi hi' => h3 i hi hi'
  | pv q =>
    have hd' : RC I w vs q := hd
    cases q with
    | agg ps => simp [toPV] at h; subst h; exact hd'
    | tup ps => simp [toPV, toPV1, toPV0] at h
    | _ => simp [toPV, toPV1, toPV0] at h; subst h; exact hd'
  | tup ds => simp [toPV, toPV1, toPV0] at h
  | _ =>
    obtain ⟨v, rfl, h1⟩ := hd
    exact (toPV1_sound (d := _) (by exact h) h1).1

theorem Bd.freeze (o : Nat) {ob : Ob} {ps : List PV} (hS : S[o]? = some (some ob)) (hps : toPVs ob.xs = some ps) (h : R (fun t => mpD (frz o ps) (E t)) (frzS o ps S)) : Bd k0 E S R := fun ρ I w a hs he _ => by
  obtain ⟨b, sz, h1, h2, cs, h3, h4, h5⟩ := hs.obs o ob hS
  obtain ⟨hl, hel⟩ := toPVs_get hps
  let I' : Nat → Prop := fun x => I x ∨ x = b
  have seg : ∀ i (hi : i < ps.length), RC I w ((cs.toList.drop (i * sz)).take sz) ps[i] := fun i hi => toPV_rdc (hel i (by omega) hi) (h5 i (by omega))
  have seg' : ∀ i (hi : i < ps.length), RC I' w ((cs.toList.drop (i * sz)).take sz) ps[i] := fun i hi => (seg i hi).mono (fun _ h => .inl h) fun _ _ => rfl
  have sl : ∀ i, i < ps.length → i * sz + sz ≤ cs.size := fun i hi => by
    have : (i + 1) * sz ≤ ob.xs.length * sz := Nat.mul_le_mul_right _ (by omega)
    rw [Nat.add_mul] at this; omega
  have hcell : ∀ i, i < ps.length → CellsAt w b (i * sz) ((cs.toList.drop (i * sz)).take sz) := fun i hi j hj => by
    have hj' : j < sz ∧ i * sz + j < cs.size := by simp at hj; omega
    simp only [World.cell?, h3, Option.isSome_none, Bool.false_eq_true, if_false]
    rw [Array.getElem?_eq_getElem hj'.2]
    simp
  have mp : Mp (frz o ps) ρ I w ρ I' w := {
    im := fun b hb => ⟨.inl hb, rfl⟩
    ptr := fun v o' i j hr => by
      simp only [frz]
      split
      · rename_i e
        subst e
        split
        · rename_i e; subst e
          split
          · rename_i p hp
            obtain ⟨hi, rfl⟩ := List.getElem?_eq_some_iff.1 hp
            obtain ⟨b', sz', k1, rfl⟩ := hr
            rw [h1] at k1; simp at k1; obtain ⟨rfl, rfl⟩ := k1
            exact ⟨.con b (i * sz) _ _ (.inr rfl) (hcell i hi) (seg' i hi), rfl⟩
          · exact ⟨trivial, rfl⟩
        · exact ⟨trivial, rfl⟩
      · exact ⟨hr, rfl⟩
    own := fun v o' n hr => by
      simp only [frz]
      split
      · rename_i e
        subst e
        split
        · rename_i hn
          obtain ⟨b', sz', cap, cs', E', k1, rfl, k3, k4, k5, k6⟩ := hr
          rw [h1] at k1; simp at k1; obtain ⟨rfl, rfl⟩ := k1
          refine ⟨.sl _ b 0 cap sz n (fun i => (cs.toList.drop (i * sz)).take sz) (by simp [hn]) k3 k4 (.inr rfl) (fun i hi => ?_) (fun i hi => ?_) (fun i hi => ?_), rfl⟩
          · have hi' : i < ps.length := by simp at hi; omega
            have := sl i hi'
            simp; omega
          · have hi' : i < ps.length := by simp at hi; omega
            rw [Nat.zero_add]
            exact hcell i hi'
          · have hi' : i < ps.length := by simp at hi; omega
            simp only [List.getElem_take]
            exact seg' i hi'
        · exact ⟨trivial, rfl⟩
      · exact ⟨hr, rfl⟩
    sub := fun v o' f n c hr => by
      simp only [frz]
      split
      · exact ⟨trivial, rfl⟩
      · exact ⟨hr, rfl⟩ }
  have get : ∀ (k : Nat) (ob' : Ob), (frzS o ps S)[k]? = some (some ob') → ∃ ob1, k ≠ o ∧ S[k]? = some (some ob1) ∧ ob' = mpOb (frz o ps) ob1 := fun k ob' hk => by
    simp only [frzS, List.getElem?_map, Option.map_eq_some_iff] at hk
    obtain ⟨x, g1, ob1, g2, g3⟩ := hk
    subst g2
    rw [List.getElem?_set] at g1
    split at g1
    · split at g1 <;> simp at g1
    · rename_i hne
      exact ⟨ob1, fun e => hne e.symm, g1, g3.symm⟩
  refine ⟨_, _, ρ, I', h, ?_, fun t => RD.mp mp (he t), ?_⟩
  · exact {
      len := by simp [frzS, hs.len]
      old := fun x hx => by
        rcases hx with hx | rfl
        · exact hs.old x hx
        · exact hs.lt o x sz h1
      obs := fun k ob' hk => by
        obtain ⟨ob1, g1, g2, rfl⟩ := get k ob' hk
        obtain ⟨b1, sz1, g3, g4⟩ := hs.obs k ob1 g2
        exact ⟨b1, sz1, g3, mpOb_ok mp g4 rfl⟩
      lt := hs.lt
      apart := fun k b1 sz1 ob' hk hr hI => by
        obtain ⟨ob1, g1, g2, _⟩ := get k ob' hk
        rcases hI with hI | rfl
        · exact hs.apart k b1 sz1 ob1 g2 hr hI
        · exact g1 (hs.inj k o b1 sz1 sz ob1 ob g2 hS hr h1)
      inj := fun k k' b1 sz1 sz2 ob1 ob2 hk hk' hr hr' => by
        obtain ⟨o1, _, g2, _⟩ := get k ob1 hk
        obtain ⟨o2, _, g2', _⟩ := get k' ob2 hk'
        exact hs.inj k k' b1 sz1 sz2 o1 o2 g2 g2' hr hr' }
  · exact {
      os := rfl
      tape := rfl
      output := rfl
      size := Nat.le_refl _
      kept := Nat.min_le_right _ _
      block := fun _ _ _ => rfl
      im := fun _ h => ⟨.inl h, rfl⟩
      inew := fun x hx => by
        rcases hx with hx | rfl
        · exact .inl hx
        · exact .inr (.inr ⟨o, sz, h1⟩)
      rnew := fun o b sz ho => .inl ⟨o, sz, ho⟩
      fix := fun o b sz _ hr => ⟨hr, fun cs _ hc => ⟨cs, hc, rfl⟩⟩ }
end bd

/-! a pure function on own slices: they are lent -/
def flatP : PV → Bool
  | .int _ _ => true
  | .bool _ => true
  | .nilp => true
  | _ => false
def flatS : PV → Bool
  | .agg cs => cs.all flatP
  | p => flatP p
def flatR : PV → Bool
  | .tup ps => ps.all flatS
  | p => flatS p
theorem flatP_rc {I I' : Nat → Prop} {w : World} {vs : List Value} {p : PV} (h : RC I w vs p) (hp : flatP p = true) : RC I' w vs p := by
  cases h with
  | int k n => exact .int k n
  | bool b => exact .bool b
  | nilp => exact .nilp
  | _ => simp [flatP] at hp
theorem flatA_rc {I I' : Nat → Prop} {w : World} {vs : List Value} {cs : List PV} (h : RC I w vs (.agg cs)) (hp : cs.all flatP = true) : RC I' w vs (.agg cs) := by
  obtain ⟨h1, h2⟩ := rc_agg h
  exact .agg vs cs h1 fun i hi hi' => flatP_rc (h2 i hi hi') (List.all_eq_true.1 hp _ (List.getElem_mem hi'))
theorem flat_rs {I I' : Nat → Prop} {w : World} {v : Value} {p : PV} (h : RS [] I w v (.pv p)) (hp : flatS p = true) : RS [] I' w v (.pv p) := by
  cases p with
  | agg cs => obtain ⟨vs, h1, h2⟩ := h; exact ⟨vs, h1, flatA_rc h2 hp⟩
  | _ => exact flatP_rc (I := I) h hp
theorem flat_rd {I I' : Nat → Prop} {w : World} {v : Value} {p : PV} (h : RD [] I w v (ofPV p)) (hp : flatR p = true) : RD [] I' w v (ofPV p) := by
  cases p with
  | tup ps =>
    obtain ⟨vs, h1, h2, h3⟩ := h
    refine ⟨vs, h1, h2, fun i hi hi' => ?_⟩
    have := h3 i hi hi'
    simp only [List.getElem_map] at this ⊢
    exact flat_rs this (List.all_eq_true.1 hp _ (List.getElem_mem _))
  | agg cs => exact flat_rs (p := .agg cs) h hp
  | int k n => exact flat_rs (p := .int k n) h hp
  | bool b => exact flat_rs (p := .bool b) h hp
  | nilp => exact flat_rs (p := .nilp) h hp
  | _ => simp [flatR, flatS, flatP] at hp

def toRs (n : Nat) (S : Store) : List D → Option (List PV) := optMap (toR n S)
theorem toRs_sound {ρ : Rho} {I : Nat → Prop} {w : World} {S : Store} (hs : St ρ I w S) : ∀ {ds : List D} {ps : List PV} {vs : List Value}, toRs 5 S ds = some ps → RDs ρ I w vs ds → RVs (allI ρ I) w vs ps
  | [], ps, [], h, _ => by simp [toRs, optMap] at h; subst h; trivial
  | d :: ds, ps, v :: vs, h, hr => by
    simp only [toRs, optMap] at h
    split at h <;> simp at h
    rename_i p ps' h1 h2
    subst h
    exact ⟨toR_rd hs h1 hr.1, toRs_sound hs h2 hr.2⟩
  | [], _, _ :: _, _, h => h.elim
  | _ :: _, _, [], _, h => h.elim

theorem CallS.lend {P : Program} {f : FuncId} {ds : List D} {ps : List PV} {S : Store} {c : D → Store → Prop} {Post : PV → Prop} (h : PCon P f ps Post) (hp : toRs 5 S ds = some ps) (hfl : ∀ p, Post p → flatR p = true)
    (hc : ∀ p, Post p → c (ofPV p) S) : CallS P f ds S c := fun ρ I w vs hs hv =>
  (h (allI ρ I) w vs (fun b hb => by
      rcases hb with hb | ⟨o, sz, ho⟩
      · exact hs.old b hb
      · exact hs.lt o b sz ho) (toRs_sound hs hp hv)).mono fun _ w' ⟨u, p, I', h1, h2, h3, h4⟩ => by
    have hg : Grow I w I w' := ⟨h3.os, h3.tape, h3.output, h3.size, h3.block, fun _ h => h, fun _ h => .inl h⟩
    exact ⟨u, ofPV p, ρ, I, S, h1, hc p h2, hs.grow hg, rd_rho (flat_rd h4 (hfl p h2)), hg.ext' hs⟩

end Go.V
