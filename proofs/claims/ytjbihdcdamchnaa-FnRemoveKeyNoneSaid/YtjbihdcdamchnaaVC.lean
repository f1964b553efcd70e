/- A part of the proofs about laws of the page tree (see the text that bears the law): a small language of steps, its rules, and what the functions of the program return. -/
import Derived.Test.YtjbihdcdamchnaaVB
set_option linter.all false
set_option linter.unusedVariables false
set_option linter.unusedSimpArgs false
namespace Go.V

def Oper.slots (o : Oper) : List Tmp := o.op.operands.toList.filterMap fun | .tmp t => some t | _ => none

def ER (ρ : Rho) (I : Nat → Prop) (w : World) (a : Act) (E : Env) : Prop := ∀ t : Nat, RD ρ I w (a.tmps.getD t Go.undef) (E t)

theorem ER.grow {ρ : Rho} {I I' : Nat → Prop} {w w' : World} {S : Store} {a : Act} {E : Env} (h : ER ρ I w a E) (hs : St ρ I w S) (hg : Grow I w I' w') : ER ρ I' w' a E :=
  fun t => RD.mono hg.imono (hs.keeps hg) (h t)

theorem put_size (a : Act) (d : Option Nat) (v : Value) : (a.put d v).tmps.size = a.tmps.size := by
  cases d <;> simp [Act.put]

theorem ER.put {ρ : Rho} {I : Nat → Prop} {w : World} {a : Act} {E : Env} (h : ER ρ I w a E) {dst : Option Nat} (hd : ∀ t, dst = some t → t < a.tmps.size)
    {v : Value} {d : D} (hv : RD ρ I w v d) : ER ρ I w (a.put dst v) (put E dst d) := by
  cases dst with
  | none => exact h
  | some s =>
    intro t
    have hs := hd s rfl
    simp only [V.put, Act.put]
    by_cases hts : t = s
    · subst hts
      simp [hs]; exact hv
    · rw [if_neg hts]
      have := h t
      simp only [Array.getD_eq_getD_getElem?] at *
      rw [Array.getElem?_setIfInBounds_ne (by omega)]
      exact this

/-- ONE OPERATION, IN EVERY STATE THAT FITS. -/
def OpOK (P : Program) (S : Store) (o : Oper) (E : Env) (d : D) : Prop :=
  ∀ (ρ : Rho) (I : Nat → Prop) (w : World) (a : Act) (next : Act → World → Prop) (Q : Exit → Act → World → Prop), StR ρ I w S →
    (∀ t ∈ Oper.slots o, RD ρ I w (a.tmps.getD t Go.undef) (E t)) →
    (∀ u I' w', Grow I w I' w' → RD ρ I' w' u d → next (a.put o.dst u) w') → o.wp P a w next Q

def wantD (ops : Array Oper) (E : Env) (o : Oper) : Option Bool :=
  match o.guard with
  | none => some true
  | some (j, want) => match (ops[j]?).bind (·.dst) with
    | none => some false
    | some t => match E t with
      | .pv (.bool b) => some (b == want)
      | .undef => some false
      | _ => none

theorem wantD_sound {ops : Array Oper} {E : Env} {o : Oper} {b : Bool} {ρ : Rho} {I : Nat → Prop} {w : World} {a : Act} (h : wantD ops E o = some b)
    (he : ER ρ I w a E) (hN : ∀ o ∈ ops, ∀ d, o.dst = some d → d < a.tmps.size) : Region.wanted o (yielded ops a.tmps) = b := by
  unfold wantD at h
  unfold Region.wanted
  cases hg : o.guard with
  | none => simp [hg] at h; simp [h]
  | some jw =>
    obtain ⟨j, want⟩ := jw
    simp only [hg] at h ⊢
    unfold yielded
    cases ht : (ops[j]?).bind (·.dst) with
    | none => simp [ht] at h; subst h; simp
    | some t =>
      have htN : t < a.tmps.size := by
        obtain ⟨oj, hj, hd⟩ := Option.bind_eq_some_iff.1 ht
        exact hN oj (Array.mem_of_getElem? hj) t hd
      have hv := he t
      rw [Array.getD_eq_getD_getElem?, Array.getElem?_eq_getElem htN] at hv
      simp only [Option.getD_some] at hv
      simp only [ht, Option.bind_some, Array.getElem?_eq_getElem htN] at h ⊢
      cases hE : E t with
      | pv p =>
        rw [hE] at h hv
        cases p with
        | bool b' =>
          simp at h
          simp only [RD, RS, R1, R0] at hv
          generalize a.tmps[t] = v at *
          cases hv
          subst h
          rfl
        | _ => simp at h
      | undef =>
        rw [hE] at h hv
        simp only [RD, RS, R1, R0] at hv
        simp at h
        rw [hv]
        subst h
        rfl
      | _ => rw [hE] at h; simp at h

section
variable {P : Program} {S : Store} {ops : Array Oper} {md : Region.Mode}

def YieldsD (P : Program) (S : Store) (ops : Array Oper) (o : Oper) (d : D) (E : Env) : Prop :=
  (wantD ops E o = some true ∧ OpOK P S o E d) ∨ (wantD ops E o = some false ∧ d = .undef)

def vOp (P : Program) (S : Store) (ops : Array Oper) (i : Nat) (K : Env → Prop) (E : Env) : Prop :=
  match ops[i]? with
  | none => K E
  | some o => ∃ d, YieldsD P S ops o d E ∧ K (put E o.dst d)

theorem vOp_mono {i : Nat} {K K' : Env → Prop} {E : Env} (h : ∀ E, K E → K' E) (hh : vOp P S ops i K E) : vOp P S ops i K' E := by
  unfold vOp at *
  split
  · exact h _ (by simpa [*] using hh)
  · rename_i o ho
    simp only [ho] at hh
    obtain ⟨d, h1, h2⟩ := hh
    exact ⟨d, h1, h _ h2⟩

def wpAnyV (P : Program) (S : Store) (md : Region.Mode) (ops : Array Oper) (Q : Env → Prop) : Nat → Array Bool → Env → Prop
  | 0, listed, E => Region.ready md ops listed = [] ∧ Q E
  | fuel + 1, listed, E =>
    (Region.ready md ops listed = [] → Q E) ∧
    ∀ i ∈ Region.ready md ops listed, vOp P S ops i (wpAnyV P S md ops Q fuel (listed.setIfInBounds i true)) E

theorem put_comm (E : Env) {x y : Option Nat} (v u : D) (h : ∀ d, x = some d → y ≠ some d) : put (put E x v) y u = put (put E y u) x v := by
  cases x with
  | none => rfl
  | some a =>
    cases y with
    | none => rfl
    | some b =>
      have hne : b ≠ a := fun he => h a rfl (he ▸ rfl)
      funext i
      simp only [put]
      by_cases h1 : i = b
      · subst h1; simp [hne]
      · simp [h1]

theorem OpOK.put {o : Oper} {E : Env} {d : D} {dst : Option Nat} {v : D} (h : OpOK P S o E d) (hd : ∀ t, dst = some t → t ∉ o.looksAt ops) : OpOK P S o (put E dst v) d := by
  intro ρ I w a next Q hs he hn
  refine h ρ I w a next Q hs (fun t ht => ?_) hn
  have := he t ht
  cases dst with
  | none => exact this
  | some s =>
    have hne : t ≠ s := fun e => hd s rfl (by subst e; exact List.mem_append_left _ ht)
    simpa [V.put, hne] using this
theorem OpOK.unput {o : Oper} {E : Env} {d : D} {dst : Option Nat} {v : D} (h : OpOK P S o (V.put E dst v) d) (hd : ∀ t, dst = some t → t ∉ o.looksAt ops) : OpOK P S o E d := by
  intro ρ I w a next Q hs he hn
  refine h ρ I w a next Q hs (fun t ht => ?_) hn
  have := he t ht
  cases dst with
  | none => exact this
  | some s =>
    have hne : t ≠ s := fun e => hd s rfl (by subst e; exact List.mem_append_left _ ht)
    simpa [V.put, hne] using this

theorem wantD_put (o : Oper) (E : Env) (dst : Option Nat) (v : D) (h : ∀ d, dst = some d → d ∉ o.looksAt ops) : wantD ops (put E dst v) o = wantD ops E o := by
  cases dst with
  | none => rfl
  | some d =>
    unfold wantD
    cases hg : o.guard with
    | none => rfl
    | some gw =>
      obtain ⟨g, want⟩ := gw
      simp only
      cases ht : (ops[g]?).bind (·.dst) with
      | none => rfl
      | some t =>
        have hne : t ≠ d := fun e => h d rfl (by subst e; simp [Oper.looksAt, hg, ht])
        simp [put, hne]

theorem YieldsD.put {o : Oper} {E : Env} {d : D} {dst : Option Nat} {v : D} (h : YieldsD P S ops o d E) (hd : ∀ t, dst = some t → t ∉ o.looksAt ops) :
    YieldsD P S ops o d (V.put E dst v) := by
  unfold YieldsD at *
  rw [wantD_put o E dst v hd]
  exact h.imp (fun ⟨h1, h2⟩ => ⟨h1, h2.put hd⟩) id
theorem YieldsD.unput {o : Oper} {E : Env} {d : D} {dst : Option Nat} {v : D} (h : YieldsD P S ops o d (V.put E dst v)) (hd : ∀ t, dst = some t → t ∉ o.looksAt ops) :
    YieldsD P S ops o d E := by
  unfold YieldsD at *
  rw [wantD_put o E dst v hd] at h
  exact h.imp (fun ⟨h1, h2⟩ => ⟨h1, h2.unput hd⟩) id

theorem vOp_put {j : Nat} {oi oj : Oper} {d : D} (hj : ops[j]? = some oj) (hap : oi.apart ops oj = true) {K : Env → Prop} {E : Env}
    (hy : YieldsD P S ops oi d E) (h : vOp P S ops j K (put E oi.dst d)) :
    vOp P S ops j (fun E' => YieldsD P S ops oi d E' ∧ K (put E' oi.dst d)) E := by
  obtain ⟨h1, h2, h3⟩ := Oper.apart_spec hap
  unfold vOp at *
  simp only [hj] at *
  obtain ⟨d', hy', hK⟩ := h
  exact ⟨d', hy'.unput h1, hy.put h3, by rw [← put_comm E d d' h2]; exact hK⟩

theorem wpAnyV_first {Q : Env → Prop} {i : Nat} {oi : Oper} {d : D} (hi : ops[i]? = some oi) :
    ∀ (fuel : Nat) (listed : Array Bool) (E : Env),
      (∀ j oj, ops[j]? = some oj → j ≠ i → listed.getD j true = false → (∀ e ∈ oj.after, Region.binds md e = true → e.on ≠ i) → oi.apart ops oj = true) →
      i ∈ Region.ready md ops listed → YieldsD P S ops oi d E →
      wpAnyV P S md ops Q fuel (listed.setIfInBounds i true) (put E oi.dst d) → wpAnyV P S md ops Q (fuel + 1) listed E := by
  intro fuel
  induction fuel with
  | zero =>
    intro listed E _ hr hy H
    refine ⟨fun h => (by rw [h] at hr; cases hr), fun j hj => ?_⟩
    by_cases hji : j = i
    · subst hji; unfold vOp; simp only [hi]; exact ⟨d, hy, H⟩
    · have := ready_mono hj hji
      rw [H.1] at this
      cases this
  | succ fuel ih =>
    intro listed E hfree hr hy H
    refine ⟨fun h => (by rw [h] at hr; cases hr), fun j hj => ?_⟩
    by_cases hji : j = i
    · subst hji; unfold vOp; simp only [hi]; exact ⟨d, hy, H⟩
    · have h1 := H.2 j (ready_mono hj hji)
      obtain ⟨hjun, oj, hoj, hall⟩ := mem_ready.1 hj
      have hnot : ∀ e ∈ oj.after, Region.binds md e = true → e.on ≠ i := fun e he hb heq => by
        have h1 := hall e he hb
        have h0 := (mem_ready.1 hr).1
        rw [heq] at h1
        rcases Nat.lt_or_ge i listed.size with h' | h'
        · simp [h'] at h0 h1; rw [h0] at h1; cases h1
        · simp [Array.getElem?_eq_none h'] at h1
      have h2 := vOp_put hoj (hfree j oj hoj hji hjun hnot) hy h1
      have hfree' : ∀ k ok, ops[k]? = some ok → k ≠ i → (listed.setIfInBounds j true).getD k true = false →
          (∀ e ∈ ok.after, Region.binds md e = true → e.on ≠ i) → oi.apart ops ok = true := fun k ok hk hki hun hno => by
        refine hfree k ok hk hki ?_ hno
        by_cases hjk : j = k
        · subst hjk; exact hjun
        · rw [getD_set_ne true hjk] at hun; exact hun
      refine vOp_mono (fun E' h3 => ih (listed.setIfInBounds j true) E' hfree' (ready_mono hr (Ne.symm hji)) h3.1 ?_) h2
      rw [Array.setIfInBounds_comm _ _ hji]
      exact h3.2

/-- THE LEXICAL ORDER, operation by operation -/
def wpLex (P : Program) (S : Store) (ops : Array Oper) (Q : Env → Prop) : List Oper → Env → Prop
  | [], E => Q E
  | o :: rest, E => ∃ d, YieldsD P S ops o d E ∧ wpLex P S ops Q rest (put E o.dst d)

theorem wpAnyV_lex {Q : Env → Prop} : ∀ (l : List Oper) (k : Nat) (listed : Array Bool) (E : Env), (∀ j : Nat, l[j]? = ops[k + j]?) →
    Region.lexFrom md ops l.length k listed = true → wpLex P S ops Q l E → wpAnyV P S md ops Q l.length listed E
  | [], _, _, _, _, hB, h => ⟨by simpa [Region.lexFrom] using hB, h⟩
  | o :: l, k, listed, E, hl, hB, h => by
    have h0 : ops[k]? = some o := by simpa using (hl 0).symm
    simp only [List.length_cons, Region.lexFrom, Bool.and_eq_true] at hB
    obtain ⟨⟨hr, hf⟩, hB'⟩ := hB
    obtain ⟨d, hy, hK⟩ := h
    exact wpAnyV_first h0 l.length listed E (Region.free_spec h0 hf) (by simpa using hr) hy
      (wpAnyV_lex l (k + 1) _ _ (fun j => by have := hl (j + 1); simpa [Nat.add_assoc, Nat.add_comm 1 j] using this) hB' hK)

/-- what the end of a free region knows -/
def EndF (ρ : Rho) (I : Nat → Prop) (w : World) (S : Store) (N : Nat) (a : Act) (Q : Env → Prop) (a' : Act) (w' : World) : Prop :=
  ∃ E' I', Q E' ∧ St ρ I' w' S ∧ ER ρ I' w' a' E' ∧ a'.tmps.size = N ∧ a'.defers = a.defers ∧ Grow I w I' w'

theorem vOp_sound {i : Nat} {K : Env → Prop} {E : Env} {ρ : Rho} {I : Nat → Prop} {w : World} {a : Act} {N : Nat} {Q' : Exit → Act → World → Prop} {K' : Act → World → Prop}
    (hN : ∀ o ∈ ops, ∀ d, o.dst = some d → d < N) (hs : St ρ I w S) (he : ER ρ I w a E) (ha : a.tmps.size = N)
    (h : vOp P S ops i K E)
    (hK : ∀ E' I' w' a', K E' → St ρ I' w' S → ER ρ I' w' a' E' → a'.tmps.size = N → a'.defers = a.defers → Grow I w I' w' → K' a' w') : wpOp P ops Q' i K' a w := by
  unfold vOp at h
  unfold wpOp
  split
  · rename_i ho; simp only [ho] at h; exact hK _ _ _ _ h hs he ha rfl (Grow.refl _ _)
  · rename_i o ho
    simp only [ho] at h
    obtain ⟨d, hy, hd⟩ := h
    have hNo : ∀ t, o.dst = some t → t < a.tmps.size := fun t ht => by rw [ha]; exact hN o (Array.mem_of_getElem? ho) t ht
    rcases hy with ⟨hw, hop⟩ | ⟨hw, rfl⟩
    · rw [wantD_sound hw he (by rw [ha]; exact hN)]
      simp only [if_true]
      refine .inl (hop ρ I w a _ _ hs.toStR (fun t _ => he t) fun u I' w' hg hu => ?_)
      exact hK _ I' w' _ hd (hs.grow hg) ((he.grow hs hg).put hNo hu) (by rw [put_size]; exact ha) (by cases o.dst <;> rfl) hg
    · rw [wantD_sound hw he (by rw [ha]; exact hN)]
      simp only [Bool.false_eq_true, if_false]
      exact hK _ I w _ hd hs (he.put hNo (by simp only [RD, RS, R1, R0])) (by rw [put_size]; exact ha) (by cases o.dst <;> rfl) (Grow.refl _ _)

theorem wpAny_of_V {Q : Env → Prop} {Q' : Exit → Act → World → Prop} {ρ : Rho} {N : Nat} (hN : ∀ o ∈ ops, ∀ d, o.dst = some d → d < N) :
    ∀ (fuel : Nat) (listed : Array Bool) (E : Env) (I : Nat → Prop) (w : World) (a : Act), St ρ I w S → ER ρ I w a E → a.tmps.size = N →
      (∀ E' I' w' a', Q E' → St ρ I' w' S → ER ρ I' w' a' E' → a'.tmps.size = N → a'.defers = a.defers → Grow I w I' w' → Q' .normal a' w') →
      wpAnyV P S md ops Q fuel listed E → wpAny P md ops Q' fuel listed a w
  | 0, _, E, I, w, a, hs, he, ha, hQ, h => ⟨h.1, hQ E I w a h.2 hs he ha rfl (Grow.refl _ _)⟩
  | fuel + 1, _, E, I, w, a, hs, he, ha, hQ, h =>
    ⟨fun h0 => hQ E I w a (h.1 h0) hs he ha rfl (Grow.refl _ _), fun i hi =>
      vOp_sound hN hs he ha (h.2 i hi) fun E' I' w' a' hE hs' he' ha' hdf hg =>
        wpAny_of_V hN fuel _ E' I' w' a' hs' he' ha' (fun E'' I'' w'' a'' h1 h2 h3 h4 h5 h6 => hQ E'' I'' w'' a'' h1 h2 h3 h4 (h5.trans hdf) (hg.trans h6)) hE⟩

theorem wpOps_of_lex {Q : Env → Prop} {Q' : Exit → Act → World → Prop} {ρ : Rho} {N : Nat} (hN : ∀ o ∈ ops, ∀ d, o.dst = some d → d < N) :
    ∀ (l : List Oper) (k : Nat) (E : Env) (I : Nat → Prop) (w : World) (a : Act), (∀ j : Nat, l[j]? = ops[k + j]?) → St ρ I w S → ER ρ I w a E → a.tmps.size = N →
      (∀ E' I' w' a', Q E' → St ρ I' w' S → ER ρ I' w' a' E' → a'.tmps.size = N → a'.defers = a.defers → Grow I w I' w' → Q' .normal a' w') →
      wpLex P S ops Q l E → wpOps P ops Q' (List.range' k l.length) a w
  | [], _, E, I, w, a, _, hs, he, ha, hQ, h => hQ E I w a h hs he ha rfl (Grow.refl _ _)
  | o :: l, k, E, I, w, a, hl, hs, he, ha, hQ, h => by
    have h0 : ops[k]? = some o := by simpa using (hl 0).symm
    rw [List.length_cons, List.range'_succ, wpOps_cons]
    obtain ⟨d, hy, hK⟩ := h
    refine vOp_sound (K := wpLex P S ops Q l) hN hs he ha ?_ fun E' I' w' a' hE hs' he' ha' hdf hg =>
        wpOps_of_lex hN l (k + 1) E' I' w' a' (fun j => by have := hl (j + 1); simpa [Nat.add_assoc, Nat.add_comm 1 j] using this) hs' he' ha'
          (fun E'' I'' w'' a'' h1 h2 h3 h4 h5 h6 => hQ E'' I'' w'' a'' h1 h2 h3 h4 (h5.trans hdf) (hg.trans h6)) hE
    unfold vOp
    simp only [h0]
    exact ⟨d, hy, hK⟩

/-- **A FREE REGION, WHATEVER ITS ORDER.** -/
theorem wp_free {id : Nat} {draw : Bool} {Q : Env → Prop} {Q' : Exit → Act → World → Prop} {ρ : Rho} {N : Nat} {E : Env} {I : Nat → Prop} {w : World} {a : Act}
    (hN : ∀ o ∈ ops, ∀ d, o.dst = some d → d < N) (hm : P.follows .mixedOrders = true) (hB : draw = true → Region.lexB .any ops = true)
    (hs : St ρ I w S) (he : ER ρ I w a E) (ha : a.tmps.size = N)
    (hQ : ∀ E' I' w' a', Q E' → St ρ I' w' S → ER ρ I' w' a' E' → a'.tmps.size = N → a'.defers = a.defers → Grow I w I' w' → Q' .normal a' w')
    (h : wpLex P S ops Q ops.toList E) : (Code.region id ops draw).wp P Q' a w := by
  cases draw with
  | true =>
    have hB := hB rfl
    simp only [Region.lexB, Bool.and_eq_true] at hB
    have hg : Grow I w I { w with drawn := w.drawn + 1 } := ⟨rfl, rfl, rfl, Nat.le_refl _, fun _ _ => rfl, fun _ h => h, fun _ h => .inl h⟩
    have hl := wpAnyV_lex (md := .any) (Q := Q) ops.toList 0 (Array.replicate ops.size false) E (by simp) (by simpa using hB.2) h
    refine wp_region_any hm ?_
    have := wpAny_of_V (Q' := Q') hN ops.toList.length _ E I { w with drawn := w.drawn + 1 } a (hs.grow hg) (he.grow hs hg) ha
      (fun E' I' w' a' h1 h2 h3 h4 h5 h6 => hQ E' I' w' a' h1 h2 h3 h4 h5 (hg.trans h6)) hl
    simpa using this
  | false =>
    refine wp_region ?_
    have := wpOps_of_lex (Q' := Q') hN ops.toList 0 E I w a (by simp) hs he ha hQ h
    simpa [List.range_eq_range'] using this
end
end Go.V
