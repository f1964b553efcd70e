/- A part of the proofs about laws of the page tree (see the text that bears the law): a small language of steps, its rules, and what the functions of the program return. -/
import Derived.Test.YtjbihdcdamchnaaVL0
set_option linter.all false
set_option linter.unusedVariables false
set_option linter.unusedSimpArgs false
namespace Go.V

def regS (P : Program) : List SO → Env → Store → (Env → Store → Prop) → Prop
  | [], E, S, K => K E S
  | o :: rest, E, S, K => match o.guard with
    | none => stepS P o.op E S fun d S => regS P rest (put E o.dst d) S K
    | some (g, want) => match E g with
      | .pv (.bool t) => (t = want → stepS P o.op (put E (some g) (.pv (.bool want))) S fun d S => regS P rest (put (put E (some g) (.pv (.bool want))) o.dst d) S K) ∧
          (t = !want → regS P rest (put (put E (some g) (.pv (.bool (!want)))) o.dst .undef) S K)
      | .undef => regS P rest (put E o.dst .undef) S K
      | _ => False

def slimEffs (P : Program) (ops : Array Oper) : List Oper → Option (List SO)
  | [] => some []
  | o :: rest => match slimEff P o, guardOf ops o, slimEffs P ops rest with
    | some so, some g, some r => some (⟨o.dst, g, so⟩ :: r)
    | _, _, _ => none

def dstsOK (N : Nat) (ops : Array Oper) : Bool := ops.all fun o => match o.dst with
  | some d => decide (d < N)
  | none => true
theorem dstsOK_spec {N : Nat} {ops : Array Oper} (h : dstsOK N ops = true) : ∀ o ∈ ops, ∀ d, o.dst = some d → d < N := fun o ho d hd => by
  have := Array.all_eq_true_iff_forall_mem.1 h o ho
  simpa [hd] using this

def EndS (k0 : Nat) (ρ : Rho) (I : Nat → Prop) (w : World) (N : Nat) (Q : Env → Store → Prop) (a' : Act) (w' : World) : Prop :=
  ∃ E' S' ρ' I', Q E' S' ∧ St ρ' I' w' S' ∧ ER ρ' I' w' a' E' ∧ a'.tmps.size = N ∧ a'.defers = [] ∧ Ext k0 ρ I w ρ' I' w'

theorem EndS.trans {k0 : Nat} {ρ ρ' : Rho} {I I' : Nat → Prop} {w w' : World} {N : Nat} {Q : Env → Store → Prop} {a' : Act} {w'' : World} (h : Ext k0 ρ I w ρ' I' w') (k : EndS k0 ρ' I' w' N Q a' w'') : EndS k0 ρ I w N Q a' w'' :=
  let ⟨E2, S2, ρ2, I2, q1, q2, q3, q4, q5, q6⟩ := k
  ⟨E2, S2, ρ2, I2, q1, q2, q3, q4, q5, h.trans q6⟩

theorem kept_of {k0 : Nat} {ρ ρ' : Rho} {I I' : Nat → Prop} {w w' : World} {S S' : Store} (hs : St ρ I w S) (hs' : St ρ' I' w' S') (h : Ext k0 ρ I w ρ' I' w') (hk : k0 ≤ S.length) : k0 ≤ S'.length := by
  have := h.kept
  rw [hs.len, hs'.len] at this
  omega

section reg
variable {P : Program} {ops : Array Oper} {N k0 : Nat}

theorem put_defers (a : Act) (d : Option Nat) (v : Value) : (a.put d v).defers = a.defers := by cases d <;> rfl

/-- one operation of a region, in order -/
theorem regS_sound {K : Env → Store → Prop} {Q' : Exit → Act → World → Prop} (hN : ∀ o ∈ ops, ∀ d, o.dst = some d → d < N) :
    ∀ {l : List Oper} {l' : List SO} {E : Env} {S : Store} {k : Nat} {ρ : Rho} {I : Nat → Prop} {w : World} {a : Act}, slimEffs P ops l = some l' → regS P l' E S K → (∀ j : Nat, l[j]? = ops[k + j]?) →
      St ρ I w S → ER ρ I w a E → a.tmps.size = N → a.defers = [] → k0 ≤ S.length → (∀ a' w', EndS k0 ρ I w N K a' w' → Q' .normal a' w') → wpOps P ops Q' (List.range' k l.length) a w
  | [], l', E, S, k, ρ, I, w, a, h, hr, _, hs, he, ha, hd, hk, hQ => by
    simp [slimEffs] at h; subst h
    exact hQ a w ⟨E, S, ρ, I, hr, hs, he, ha, hd, Ext.refl _ _ _ _⟩
  | o :: l, l', E, S, k, ρ, I, w, a, h, hr, hl, hs, he, ha, hd, hk, hQ => by
    have h0 : ops[k]? = some o := by simpa using (hl 0).symm
    have hmem : o ∈ ops := Array.mem_of_getElem? h0
    rw [List.length_cons, List.range'_succ]
    simp only [wpOps, h0]
    have hl' : ∀ j : Nat, l[j]? = ops[k + 1 + j]? := fun j => by have := hl (j + 1); simpa [Nat.add_assoc, Nat.add_comm 1 j] using this
    have hdst : ∀ {a' : Act}, a'.tmps.size = N → ∀ t, o.dst = some t → t < a'.tmps.size := fun h' t ht => by rw [h']; exact hN o hmem t ht
    simp only [slimEffs] at h
    split at h <;> simp at h
    rename_i so g r h1 h2 h3
    subst h
    unfold guardOf at h2
    unfold regS at hr
    have run : ∀ {E : Env}, ER ρ I w a E → stepS P so E S (fun d S => regS P r (put E o.dst d) S K) → o.wp P a w (wpOps P ops Q' (List.range' (k + 1) l.length)) Q' := fun he hst =>
      slimEff_sound h1 hst ρ I w a _ _ hs (fun t _ => he t) fun u d ρ' I' w' S' hc hs' hu hx =>
        have hx0 := hx.le hk
        regS_sound hN h3 hc hl' hs' ((he.tr (hx.tr (by rw [hs.len]; exact Nat.le_refl _))).put (hdst ha) hu) (by rw [put_size]; exact ha) (by rw [put_defers]; exact hd) (kept_of hs hs' hx0 hk)
          fun a'' w'' h'' => hQ a'' w'' (h''.trans hx0)
    have skip : ∀ {E : Env}, ER ρ I w a E → regS P r (put E o.dst .undef) S K → wpOps P ops Q' (List.range' (k + 1) l.length) (a.put o.dst Go.undef) w := fun he hst =>
      regS_sound hN h3 hst hl' hs (he.put (hdst ha) (rd_undef.2 rfl)) (by rw [put_size]; exact ha) (by rw [put_defers]; exact hd) hk hQ
    split at h2
    · rename_i hg
      simp at h2; subst h2
      have hw : Region.wanted o (yielded ops a.tmps) = true := by simp [Region.wanted, hg]
      rw [if_pos hw]
      exact .inl (run he hr)
    · rename_i j want hg
      split at h2
      · rename_i t ht
        simp at h2; subst h2
        simp only at hr
        split at hr
        · rename_i b hb
          have hwd : wantD ops E o = some (b == want) := by simp [wantD, hg, ht, hb]
          rw [wantD_sound hwd he (by rw [ha]; exact hN)]
          by_cases hbw : b = want
          · subst hbw
            have := hr.1 rfl
            rw [put_same hb] at this
            simp only [beq_self_eq_true, if_true]
            exact .inl (run he this)
          · have hb2 : b = !want := by cases b <;> cases want <;> simp_all
            have := hr.2 hb2
            rw [← hb2, put_same hb] at this
            have hf : (b == want) = false := by rw [hb2]; cases want <;> rfl
            simp only [hf, Bool.false_eq_true, if_false]
            exact skip he this
        · rename_i hb
          have hwd : wantD ops E o = some false := by simp [wantD, hg, ht, hb]
          rw [wantD_sound hwd he (by rw [ha]; exact hN)]
          simp only [Bool.false_eq_true, if_false]
          exact skip he hr
        · exact hr.elim
      · simp at h2

/-! ## a region in any order, with operations that write -/

/-- what no writing operation of the region touches -/
def Sub (SF S : Store) : Prop := ∀ (o : Nat) (ob : Ob), SF[o]? = some (some ob) → ∃ ob', S[o]? = some (some ob') ∧ ob.ty = ob'.ty ∧ ob.sz = ob'.sz ∧ ∃ ys, ob'.xs = ob.xs ++ ys
theorem Sub.of_eq {SF S : Store} (h : ∀ (o : Nat) (ob : Ob), SF[o]? = some (some ob) → S[o]? = some (some ob)) : Sub SF S := fun o ob ho => ⟨ob, h o ob ho, rfl, rfl, [], by simp⟩
theorem Sub.str {ρ : Rho} {I : Nat → Prop} {w : World} {SF S : Store} (h : Sub SF S) (hs : StR ρ I w S) : StR ρ I w SF := ⟨hs.old, fun o ob ho => by
  obtain ⟨ob', h1, h2, h3, ys, h4⟩ := h o ob ho
  obtain ⟨b, sz, g1, g2, cs, g3, g4, g5⟩ := hs.obs o ob' h1
  refine ⟨b, sz, g1, by rw [h3]; exact g2, cs, by rw [h2]; exact g3, Nat.le_trans (Nat.mul_le_mul_right _ (by rw [h4]; simp)) g4, fun i hi => ?_⟩
  have := g5 i (by rw [h4]; simp; omega)
  have e : ob'.xs[i]'(by rw [h4]; simp; omega) = ob.xs[i] := by simp [h4, List.getElem_append_left hi]
  rw [e] at this
  exact this⟩

/-- calls may count as free -/
def isXc (cf : Bool) (op : SOp) : Bool :=
  match op with
  | .call _ _ => !cf
  | .callv _ _ => !cf
  | op => isX op
theorem isXc_false (op : SOp) : isXc false op = isX op := by cases op <;> rfl
def xOp (P : Program) (cf : Bool) (o : Oper) : Bool := match slimEff P o with
  | some so => isXc cf so
  | none => true

variable {cf : Bool}
variable {SF : Store} {md : Region.Mode}

/-- the last operation of a region, behind all others -/
def depsOf (md : Region.Mode) (ops : Array Oper) (m : Nat) : List Nat :=
  match ops[m]? with
  | some o => (o.after.toList.filter fun e => Region.binds md e).map (·.on)
  | none => []
def closer (md : Region.Mode) (ops : Array Oper) (j : Nat) : Bool :=
  (j + 1 == ops.size) && (List.range j).all fun k => (List.range (j + 1)).any fun m => decide (k < m) && (depsOf md ops m).contains k
def Closed (md : Region.Mode) (ops : Array Oper) (listed : Array Bool) : Prop := ∀ a, listed.getD a false = true → ∀ k ∈ depsOf md ops a, listed.getD k false = true
theorem mem_deps {m k : Nat} : k ∈ depsOf md ops m ↔ ∃ o, ops[m]? = some o ∧ ∃ e ∈ o.after, Region.binds md e = true ∧ e.on = k := by
  unfold depsOf
  cases h : ops[m]? with
  | none => simp
  | some o => simp [and_assoc]
theorem closer_all {j : Nat} {listed : Array Bool} (hc : closer md ops j = true) (hcl : Closed md ops listed) (hj : j ∈ Region.ready md ops listed) : ∀ k, k < j → listed.getD k false = true := by
  unfold closer at hc
  simp only [Bool.and_eq_true, List.all_eq_true, List.any_eq_true, List.mem_range, decide_eq_true_eq] at hc
  obtain ⟨_, hc⟩ := hc
  obtain ⟨_, oj, hoj, hall⟩ := mem_ready.1 hj
  have main : ∀ n k, k < j → j - k ≤ n → listed.getD k false = true := by
    intro n
    induction n with
    | zero => intro k hk hn; omega
    | succ n ih =>
      intro k hk hn
      obtain ⟨m, hm, hkm, hd⟩ := hc k hk
      rw [List.contains_iff_mem] at hd
      by_cases hmj : m = j
      · subst hmj
        obtain ⟨o, ho, e, he, hb, rfl⟩ := mem_deps.1 hd
        rw [hoj] at ho
        simp at ho
        subst ho
        exact hall e he hb
      · exact hcl m (ih m (by omega) (by omega)) k hd
  exact fun k hk => main (j - k) k hk (Nat.le_refl _)
theorem closed_set {j : Nat} {listed : Array Bool} (hcl : Closed md ops listed) (hj : j ∈ Region.ready md ops listed) : Closed md ops (listed.setIfInBounds j true) := fun a ha k hk => by
  by_cases e : a = j
  · subst e
    obtain ⟨o, ho, e, he, hb, rfl⟩ := mem_deps.1 hk
    obtain ⟨_, oj, hoj, hall⟩ := mem_ready.1 hj
    rw [hoj] at ho
    simp at ho
    subst ho
    exact getD_set_true (hall e he hb)
  · rw [getD_set_ne false (Ne.symm e)] at ha
    exact getD_set_true (hcl a ha k hk)
theorem closer_end {j : Nat} {listed : Array Bool} (hc : closer md ops j = true) (hcl : Closed md ops listed) (hj : j ∈ Region.ready md ops listed) : Region.ready md ops (listed.setIfInBounds j true) = [] := by
  have hsz : j + 1 = ops.size := by
    unfold closer at hc
    simp only [Bool.and_eq_true, beq_iff_eq] at hc
    exact hc.1
  apply List.eq_nil_iff_forall_not_mem.2
  intro k hk
  obtain ⟨h0, o, ho, _⟩ := mem_ready.1 hk
  have hlt : k < ops.size := (Array.getElem?_eq_some_iff.1 ho).1
  by_cases e : k = j
  · subst e
    rcases Nat.lt_or_ge k listed.size with h' | h'
    · simp [h'] at h0
    · simp [Nat.not_lt.2 h'] at h0
  · have := closer_all hc hcl hj k (by omega)
    rw [getD_set_ne true (Ne.symm e)] at h0
    rcases Nat.lt_or_ge k listed.size with h' | h'
    · simp [h'] at h0 this; rw [this] at h0; cases h0
    · simp [Array.getElem?_eq_none h'] at h0

def mOp (P : Program) (cf : Bool) (SF : Store) (md : Region.Mode) (ops : Array Oper) (i : Nat) (K : Env → Store → Prop) (E : Env) (S : Store) : Prop :=
  match ops[i]? with
  | none => K E S
  | some o => if xOp P cf o then (wantD ops E o = some true ∧ OpX P o E S fun d S' => (closer md ops i = true ∨ Sub SF S') ∧ K (put E o.dst d) S') ∨ (wantD ops E o = some false ∧ K (put E o.dst .undef) S)
    else ∃ d, YieldsD P SF ops o d E ∧ K (put E o.dst d) S

theorem OpX.mono {o : Oper} {E : Env} {S : Store} {c c' : D → Store → Prop} (h : OpX P o E S c) (hc : ∀ d S', c d S' → c' d S') : OpX P o E S c' :=
  fun ρ I w a next Q hs he hn => h ρ I w a next Q hs he fun u d ρ' I' w' S' h1 => hn u d ρ' I' w' S' (hc d S' h1)

theorem OpX.unput {o : Oper} {E : Env} {S : Store} {c : D → Store → Prop} {dst : Option Nat} {v : D} (h : OpX P o (V.put E dst v) S c) (hd : ∀ t, dst = some t → t ∉ o.looksAt ops) : OpX P o E S c := by
  intro ρ I w a next Q hs he hn
  refine h ρ I w a next Q hs (fun t ht => ?_) hn
  have := he t ht
  cases dst with
  | none => exact this
  | some s =>
    have hne : t ≠ s := fun e => hd s rfl (by subst e; exact List.mem_append_left _ ht)
    simpa [V.put, hne] using this

theorem mOp_mono {i : Nat} {K K' : Env → Store → Prop} {E : Env} {S : Store} (h : ∀ E S, K E S → K' E S) (hh : mOp P cf SF md ops i K E S) : mOp P cf SF md ops i K' E S := by
  unfold mOp at *
  split
  · exact h _ _ (by simpa [*] using hh)
  · rename_i o ho
    simp only [ho] at hh
    split
    · rename_i hx
      rw [if_pos hx] at hh
      exact hh.imp (fun ⟨h1, h2⟩ => ⟨h1, h2.mono fun d S' h3 => ⟨h3.1, h _ _ h3.2⟩⟩) fun ⟨h1, h2⟩ => ⟨h1, h _ _ h2⟩
    · rename_i hx
      rw [if_neg hx] at hh
      obtain ⟨d, h1, h2⟩ := hh
      exact ⟨d, h1, h _ _ h2⟩

def wpAnyM (P : Program) (cf : Bool) (SF : Store) (md : Region.Mode) (ops : Array Oper) (Q : Env → Store → Prop) : Nat → Array Bool → Env → Store → Prop
  | 0, listed, E, S => Region.ready md ops listed = [] ∧ Q E S
  | fuel + 1, listed, E, S =>
    (Region.ready md ops listed = [] → Q E S) ∧
    ∀ i ∈ Region.ready md ops listed, mOp P cf SF md ops i (wpAnyM P cf SF md ops Q fuel (listed.setIfInBounds i true)) E S

theorem mOp_put {j : Nat} {oi oj : Oper} {d : D} (hj : ops[j]? = some oj) (hap : oi.apart ops oj = true) {K : Env → Store → Prop} {E : Env} {S : Store}
    (hy : YieldsD P SF ops oi d E) (h : mOp P cf SF md ops j K (put E oi.dst d) S) :
    mOp P cf SF md ops j (fun E' S' => YieldsD P SF ops oi d E' ∧ K (put E' oi.dst d) S') E S := by
  obtain ⟨h1, h2, h3⟩ := Oper.apart_spec hap
  unfold mOp at *
  simp only [hj] at *
  split
  · rename_i hx
    rw [if_pos hx, wantD_put oj E oi.dst d h1] at h
    refine h.imp (fun ⟨g1, g2⟩ => ⟨g1, (g2.unput h1).mono fun d' S' g3 => ⟨g3.1, hy.put h3, ?_⟩⟩) fun ⟨g1, g2⟩ => ⟨g1, hy.put h3, ?_⟩
    · rw [← put_comm E d d' h2]; exact g3.2
    · rw [← put_comm E d .undef h2]; exact g2
  · rename_i hx
    rw [if_neg hx] at h
    obtain ⟨d', hy', hK⟩ := h
    exact ⟨d', hy'.unput h1, hy.put h3, by rw [← put_comm E d d' h2]; exact hK⟩

theorem mOp_f {i : Nat} {oi : Oper} {d : D} {E : Env} {S : Store} {K : Env → Store → Prop} (hi : ops[i]? = some oi) (hf : xOp P cf oi = false) (hy : YieldsD P SF ops oi d E) (h : K (put E oi.dst d) S) : mOp P cf SF md ops i K E S := by
  unfold mOp
  simp only [hi, hf, Bool.false_eq_true, if_false]
  exact ⟨d, hy, h⟩

theorem wpAnyM_first {Q : Env → Store → Prop} {i : Nat} {oi : Oper} {d : D} (hi : ops[i]? = some oi) (hf : xOp P cf oi = false) :
    ∀ (fuel : Nat) (listed : Array Bool) (E : Env) (S : Store),
      (∀ j oj, ops[j]? = some oj → j ≠ i → listed.getD j true = false → (∀ e ∈ oj.after, Region.binds md e = true → e.on ≠ i) → oi.apart ops oj = true) →
      i ∈ Region.ready md ops listed → YieldsD P SF ops oi d E →
      wpAnyM P cf SF md ops Q fuel (listed.setIfInBounds i true) (put E oi.dst d) S → wpAnyM P cf SF md ops Q (fuel + 1) listed E S := by
  intro fuel
  induction fuel with
  | zero =>
    intro listed E S _ hr hy H
    refine ⟨fun h => (by rw [h] at hr; cases hr), fun j hj => ?_⟩
    by_cases hji : j = i
    · subst hji; exact mOp_f hi hf hy H
    · have := ready_mono hj hji
      rw [H.1] at this
      cases this
  | succ fuel ih =>
    intro listed E S hfree hr hy H
    refine ⟨fun h => (by rw [h] at hr; cases hr), fun j hj => ?_⟩
    by_cases hji : j = i
    · subst hji; exact mOp_f hi hf hy H
    · have h1 := H.2 j (ready_mono hj hji)
      obtain ⟨hjun, oj, hoj, hall⟩ := mem_ready.1 hj
      have hnot : ∀ e ∈ oj.after, Region.binds md e = true → e.on ≠ i := fun e he hb heq => by
        have h1 := hall e he hb
        have h0 := (mem_ready.1 hr).1
        rw [heq] at h1
        rcases Nat.lt_or_ge i listed.size with h' | h'
        · simp [h'] at h0 h1; rw [h0] at h1; cases h1
        · simp [Array.getElem?_eq_none h'] at h1
      have h2 := mOp_put hoj (hfree j oj hoj hji hjun hnot) hy h1
      have hfree' : ∀ k ok, ops[k]? = some ok → k ≠ i → (listed.setIfInBounds j true).getD k true = false →
          (∀ e ∈ ok.after, Region.binds md e = true → e.on ≠ i) → oi.apart ops ok = true := fun k ok hk hki hun hno => by
        refine hfree k ok hk hki ?_ hno
        by_cases hjk : j = k
        · subst hjk; exact hjun
        · rw [getD_set_ne true hjk] at hun; exact hun
      refine mOp_mono (fun E' S' h3 => ih (listed.setIfInBounds j true) E' S' hfree' (ready_mono hr (Ne.symm hji)) h3.1 ?_) h2
      rw [Array.setIfInBounds_comm _ _ hji]
      exact h3.2

theorem wpAnyM_only {Q : Env → Store → Prop} {i : Nat} {fuel : Nat} {listed : Array Bool} {E : Env} {S : Store} (hr : Region.ready md ops listed = [i])
    (h : mOp P cf SF md ops i (wpAnyM P cf SF md ops Q fuel (listed.setIfInBounds i true)) E S) : wpAnyM P cf SF md ops Q (fuel + 1) listed E S := by
  simp only [wpAnyM]
  refine ⟨fun h' => (by rw [hr] at h'; cases h'), fun j hj => ?_⟩
  rw [hr] at hj
  simp at hj
  subst hj
  exact h

/-- the order: what writes nothing first; what writes: in each order that may be -/
def mkRT (P : Program) (cf : Bool) (md : Region.Mode) (ops : Array Oper) (i : Nat) (t : Option RT) : Option RT :=
  match ops[i]?, t with
  | some o, some t => match slimEff P o, guardOf ops o with
    | some so, some g => some (match t with
      | .nil => if isXc cf so && closer md ops i then .last ⟨o.dst, g, so⟩ else .op ⟨o.dst, g, so⟩ .nil
      | t => .op ⟨o.dst, g, so⟩ t)
    | _, _ => none
  | _, _ => none
theorem mkRT_some {i : Nat} {t : Option RT} {r : RT} (h : mkRT P cf md ops i t = some r) : ∃ o so g t', ops[i]? = some o ∧ slimEff P o = some so ∧ guardOf ops o = some g ∧ t = some t' ∧ (r = .op ⟨o.dst, g, so⟩ t' ∨ (r = .last ⟨o.dst, g, so⟩ ∧ t' = .nil ∧ isXc cf so = true ∧ closer md ops i = true)) := by
  unfold mkRT at h
  split at h
  · rename_i o t' h1
    split at h <;> simp at h
    rename_i so g h3 h4
    refine ⟨o, so, g, t', h1, h3, h4, rfl, ?_⟩
    split at h
    · split at h
      · rename_i hz
        exact .inr ⟨h.symm, rfl, hz.1, hz.2⟩
      · exact .inl h.symm
    · exact .inl h.symm
  · simp at h
def orL : List (Option RT) → Option RT
  | [] => some .nil
  | [x] => x
  | x :: y :: xs => match x, orL (y :: xs) with
    | some a, some b => some (.or a b)
    | _, _ => none
def greedyT (P : Program) (cf : Bool) (wd : Nat) (md : Region.Mode) (ops : Array Oper) : Nat → Array Bool → Option RT
  | 0, listed => if (Region.ready md ops listed).isEmpty then some .nil else none
  | fuel + 1, listed => match (Region.ready md ops listed).find? (fun i => match ops[i]? with | some o => !xOp P cf o | none => false) with
    | some i => if Region.free md ops listed i then mkRT P cf md ops i (greedyT P cf wd md ops fuel (listed.setIfInBounds i true)) else none
    | none => if (Region.ready md ops listed).length ≤ wd then orL ((Region.ready md ops listed).map fun i => mkRT P cf md ops i (greedyT P cf wd md ops fuel (listed.setIfInBounds i true))) else none

def stepM (P : Program) (cf : Bool) (SF : Store) (op : SOp) (E : Env) (S : Store) (c : D → Store → Prop) : Prop :=
  if isXc cf op then stepS P op E S fun d S' => Sub SF S' ∧ c d S' else stepF P SF op E fun d => c d S

def regM (P : Program) (cf : Bool) (SF : Store) : RT → Env → Store → (Env → Store → Prop) → Prop
  | .nil, E, S, K => K E S
  | .or a b, E, S, K => regM P cf SF a E S K ∧ regM P cf SF b E S K
  | .last o, E, S, K => match o.guard with
    | none => stepS P o.op E S fun d S => K (put E o.dst d) S
    | some (g, want) => match E g with
      | .pv (.bool t) => (t = want → stepS P o.op (put E (some g) (.pv (.bool want))) S fun d S => K (put (put E (some g) (.pv (.bool want))) o.dst d) S) ∧
          (t = !want → K (put (put E (some g) (.pv (.bool (!want)))) o.dst .undef) S)
      | .undef => K (put E o.dst .undef) S
      | _ => False
  | .op o rest, E, S, K => match o.guard with
    | none => stepM P cf SF o.op E S fun d S => regM P cf SF rest (put E o.dst d) S K
    | some (g, want) => match E g with
      | .pv (.bool t) => (t = want → stepM P cf SF o.op (put E (some g) (.pv (.bool want))) S fun d S => regM P cf SF rest (put (put E (some g) (.pv (.bool want))) o.dst d) S K) ∧
          (t = !want → regM P cf SF rest (put (put E (some g) (.pv (.bool (!want)))) o.dst .undef) S K)
      | .undef => regM P cf SF rest (put E o.dst .undef) S K
      | _ => False

theorem slimEff_free {o : Oper} {so : SOp} (h : slimEff P o = some so) (hx : isXc cf so = false) : slimFree P o = some so := by
  unfold slimEff at h
  repeat' split at h
  all_goals first
    | exact h
    | (simp at h; done)
    | (simp at h; subst h; simp [isXc, isX] at hx; done)

theorem step_mOp {i : Nat} {o : Oper} {so : SOp} {E : Env} {S : Store} {K : Env → Store → Prop} (hi : ops[i]? = some o) (h1 : slimEff P o = some so) (hw : wantD ops E o = some true)
    (h : stepM P cf SF so E S fun d S => K (put E o.dst d) S) : (xOp P cf o = true ∧ mOp P cf SF md ops i K E S) ∨ (xOp P cf o = false ∧ ∃ d, YieldsD P SF ops o d E ∧ K (put E o.dst d) S) := by
  have hx : xOp P cf o = isXc cf so := by simp [xOp, h1]
  unfold stepM at h
  split at h
  · rename_i hX
    left
    refine ⟨by rw [hx, hX], ?_⟩
    unfold mOp
    simp only [hi, hx, hX, if_true]
    exact .inl ⟨hw, (slimEff_sound h1 h).mono fun d S' h3 => ⟨.inr h3.1, h3.2⟩⟩
  · rename_i hX
    right
    have hX' : isXc cf so = false := by simpa using hX
    refine ⟨by rw [hx, hX'], ?_⟩
    obtain ⟨d, h2, h3⟩ := slimFree_sound (slimEff_free h1 hX') h
    exact ⟨d, .inl ⟨hw, h2⟩, h3⟩

theorem regM_step {i : Nat} {o : Oper} {E : Env} {S : Store} {K : Env → Store → Prop} {so : SOp} {g : Option (Nat × Bool)} {rest : RT} (hi : ops[i]? = some o) (h1 : slimEff P o = some so) (hg : guardOf ops o = some g)
    (h : regM P cf SF (.op ⟨o.dst, g, so⟩ rest) E S K) :
    (xOp P cf o = true ∧ mOp P cf SF md ops i (fun E S => regM P cf SF rest E S K) E S) ∨ (xOp P cf o = false ∧ ∃ d, YieldsD P SF ops o d E ∧ regM P cf SF rest (put E o.dst d) S K) := by
  have skip : wantD ops E o = some false → regM P cf SF rest (put E o.dst .undef) S K →
      (xOp P cf o = true ∧ mOp P cf SF md ops i (fun E S => regM P cf SF rest E S K) E S) ∨ (xOp P cf o = false ∧ ∃ d, YieldsD P SF ops o d E ∧ regM P cf SF rest (put E o.dst d) S K) := fun hw hr => by
    cases hx : xOp P cf o with
    | true =>
      refine .inl ⟨rfl, ?_⟩
      unfold mOp
      simp only [hi, hx, if_true]
      exact .inr ⟨hw, hr⟩
    | false => exact .inr ⟨rfl, .undef, .inr ⟨hw, rfl⟩, hr⟩
  unfold guardOf at hg
  unfold regM at h
  split at hg
  · rename_i hgu
    simp at hg; subst hg
    exact step_mOp (K := fun E S => regM P cf SF rest E S K) hi h1 (by simp [wantD, hgu]) h
  · rename_i j want hgu
    split at hg
    · rename_i t ht
      simp at hg; subst hg
      simp only at h
      split at h
      · rename_i b hb
        have hwd : wantD ops E o = some (b == want) := by simp [wantD, hgu, ht, hb]
        by_cases hbw : b = want
        · subst hbw
          have := h.1 rfl
          rw [put_same hb] at this
          exact step_mOp (K := fun E S => regM P cf SF rest E S K) hi h1 (by rw [hwd]; simp) this
        · have hb2 : b = !want := by cases b <;> cases want <;> simp_all
          have := h.2 hb2
          rw [← hb2, put_same hb] at this
          have hf : (b == want) = false := by rw [hb2]; cases want <;> rfl
          exact skip (by rw [hwd, hf]) this
      · rename_i hb
        exact skip (by simp [wantD, hgu, ht, hb]) h
      · exact h.elim
    · simp at hg

theorem last_mOp {i : Nat} {o : Oper} {so : SOp} {E : Env} {S : Store} {K : Env → Store → Prop} (hi : ops[i]? = some o) (h1 : slimEff P o = some so) (hx : isXc cf so = true) (hc : closer md ops i = true) (hw : wantD ops E o = some true)
    (h : stepS P so E S fun d S => K (put E o.dst d) S) : mOp P cf SF md ops i K E S := by
  have hx' : xOp P cf o = true := by simp [xOp, h1, hx]
  unfold mOp
  simp only [hi, hx', if_true]
  exact .inl ⟨hw, (slimEff_sound h1 h).mono fun d S' h3 => ⟨.inl hc, h3⟩⟩
theorem regM_last {i : Nat} {o : Oper} {E : Env} {S : Store} {K : Env → Store → Prop} {so : SOp} {g : Option (Nat × Bool)} (hi : ops[i]? = some o) (h1 : slimEff P o = some so) (hg : guardOf ops o = some g) (hx : isXc cf so = true) (hc : closer md ops i = true)
    (h : regM P cf SF (.last ⟨o.dst, g, so⟩) E S K) : mOp P cf SF md ops i K E S := by
  have hx' : xOp P cf o = true := by simp [xOp, h1, hx]
  have skip : wantD ops E o = some false → K (put E o.dst .undef) S → mOp P cf SF md ops i K E S := fun hw hr => by
    unfold mOp
    simp only [hi, hx', if_true]
    exact .inr ⟨hw, hr⟩
  unfold guardOf at hg
  unfold regM at h
  split at hg
  · rename_i hgu
    simp at hg; subst hg
    exact last_mOp hi h1 hx hc (by simp [wantD, hgu]) h
  · rename_i j want hgu
    split at hg
    · rename_i t ht
      simp at hg; subst hg
      simp only at h
      split at h
      · rename_i b hb
        have hwd : wantD ops E o = some (b == want) := by simp [wantD, hgu, ht, hb]
        by_cases hbw : b = want
        · subst hbw
          have := h.1 rfl
          rw [put_same hb] at this
          exact last_mOp hi h1 hx hc (by rw [hwd]; simp) this
        · have hb2 : b = !want := by cases b <;> cases want <;> simp_all
          have := h.2 hb2
          rw [← hb2, put_same hb] at this
          have hf : (b == want) = false := by rw [hb2]; cases want <;> rfl
          exact skip (by rw [hwd, hf]) this
      · rename_i hb
        exact skip (by simp [wantD, hgu, ht, hb]) h
      · exact h.elim
    · simp at hg

theorem orL_sound {Q : Env → Store → Prop} {E : Env} {S : Store} {f : Nat → Option RT} : ∀ {l : List Nat} {t : RT}, orL (l.map f) = some t → regM P cf SF t E S Q →
    ∀ i ∈ l, ∃ t', f i = some t' ∧ regM P cf SF t' E S Q
  | [], _, _, _, i, hi => by cases hi
  | [x], t, h, hr, i, hi => by
    simp at hi; subst hi
    simp only [List.map_cons, List.map_nil, orL] at h
    exact ⟨t, h, hr⟩
  | x :: y :: xs, t, h, hr, i, hi => by
    simp only [List.map_cons, orL] at h
    split at h
    · rename_i a b h1 h2
      simp at h; subst h
      rcases List.mem_cons.1 hi with rfl | hi'
      · exact ⟨a, h1, hr.1⟩
      · exact orL_sound (l := y :: xs) h2 hr.2 i hi'
    · simp at h

theorem regM_any {wd : Nat} {Q : Env → Store → Prop} : ∀ (fuel : Nat) (listed : Array Bool) (t : RT) (E : Env) (S : Store), greedyT P cf wd md ops fuel listed = some t →
    regM P cf SF t E S Q → wpAnyM P cf SF md ops Q fuel listed E S
  | 0, listed, t, E, S, hg, h => by
    simp only [greedyT] at hg
    split at hg <;> simp at hg
    rename_i h0
    subst hg
    exact ⟨by simpa using h0, h⟩
  | fuel + 1, listed, t, E, S, hg, h => by
    simp only [greedyT] at hg
    split at hg
    · rename_i i hi
      have hmem := List.mem_of_find?_eq_some hi
      have hp := List.find?_some hi
      split at hg
      · rename_i hfree
        obtain ⟨o, so, g, r, k1, k2, k3, k4, k5⟩ := mkRT_some hg
        simp only [k1, Bool.not_eq_true'] at hp
        rcases k5 with k5 | ⟨_, _, k6, _⟩
        rotate_left
        · simp [xOp, k2, k6] at hp
        subst k5
        rcases regM_step (md := md) k1 k2 k3 h with ⟨hx, _⟩ | ⟨_, d, hy, hK⟩
        · rw [hx] at hp; cases hp
        · exact wpAnyM_first k1 hp fuel listed E S (Region.free_spec k1 hfree) hmem hy (regM_any fuel _ r _ S k4 hK)
      · simp at hg
    · rename_i hnone
      split at hg
      · refine ⟨fun h0 => ?_, fun i hi => ?_⟩
        · rw [h0] at hg
          simp [orL] at hg
          subst hg
          exact h
        · obtain ⟨t', h1, h2⟩ := orL_sound hg h i hi
          obtain ⟨o, so, g, r, k1, k2, k3, k4, k5⟩ := mkRT_some h1
          rcases k5 with k5 | ⟨k5, k6, k7, k8⟩
          rotate_left
          · subst k5 k6
            exact mOp_mono (fun E' S' h' => regM_any fuel _ .nil E' S' k4 h') (regM_last k1 k2 k3 k7 k8 h2)
          subst k5
          rcases regM_step (md := md) k1 k2 k3 h2 with ⟨hx, hK⟩ | ⟨hx, d, hy, hK⟩
          · exact mOp_mono (fun E' S' h' => regM_any fuel _ r E' S' k4 h') hK
          · exact mOp_f k1 hx hy (regM_any fuel _ r _ S k4 hK)
      · simp at hg

theorem mOp_sound {i : Nat} {K : Env → Store → Prop} {E : Env} {S : Store} {ρ : Rho} {I : Nat → Prop} {w : World} {a : Act} {Q' : Exit → Act → World → Prop} {K' : Act → World → Prop}
    (hN : ∀ o ∈ ops, ∀ d, o.dst = some d → d < N) (hs : St ρ I w S) (he : ER ρ I w a E) (ha : a.tmps.size = N) (hd : a.defers = []) (hk : k0 ≤ S.length) (hsub : Sub SF S)
    (h : mOp P cf SF md ops i K E S)
    (hK : ∀ E' S' ρ' I' w' a', K E' S' → St ρ' I' w' S' → ER ρ' I' w' a' E' → a'.tmps.size = N → a'.defers = [] → Ext k0 ρ I w ρ' I' w' → k0 ≤ S'.length → (closer md ops i = true ∨ Sub SF S') → K' a' w') : wpOp P ops Q' i K' a w := by
  unfold mOp at h
  unfold wpOp
  split
  · rename_i ho; simp only [ho] at h; exact hK _ _ _ _ _ _ h hs he ha hd (Ext.refl _ _ _ _) hk (.inr hsub)
  · rename_i o ho
    simp only [ho] at h
    have hNo : ∀ t, o.dst = some t → t < a.tmps.size := fun t ht => by rw [ha]; exact hN o (Array.mem_of_getElem? ho) t ht
    have skip : wantD ops E o = some false → K (put E o.dst .undef) S → _ := fun hw hr => by
      have := hK _ S ρ I w _ hr hs (he.put hNo (rd_undef.2 rfl)) (by rw [put_size]; exact ha) (by rw [put_defers]; exact hd) (Ext.refl _ _ _ _) hk (.inr hsub)
      exact this
    split at h
    · rcases h with ⟨hw, hop⟩ | ⟨hw, hr⟩
      · rw [wantD_sound hw he (by rw [ha]; exact hN)]
        simp only [if_true]
        refine .inl (hop ρ I w a _ _ hs (fun t _ => he t) fun u d ρ' I' w' S' hc hs' hu hx => ?_)
        have hx0 := hx.le hk
        exact hK _ S' ρ' I' w' _ hc.2 hs' ((he.tr (hx.tr (by rw [hs.len]; exact Nat.le_refl _))).put hNo hu) (by rw [put_size]; exact ha) (by rw [put_defers]; exact hd) hx0 (kept_of hs hs' hx0 hk) hc.1
      · rw [wantD_sound hw he (by rw [ha]; exact hN)]
        simp only [Bool.false_eq_true, if_false]
        exact skip hw hr
    · obtain ⟨d, hy, hr⟩ := h
      rcases hy with ⟨hw, hop⟩ | ⟨hw, rfl⟩
      · rw [wantD_sound hw he (by rw [ha]; exact hN)]
        simp only [if_true]
        have hsr : StR ρ I w SF := hsub.str hs.toStR
        refine .inl (hop ρ I w a _ _ hsr (fun t _ => he t) fun u I' w' hg hu => ?_)
        exact hK _ S ρ I' w' _ hr (hs.grow hg) ((he.grow hs hg).put hNo hu) (by rw [put_size]; exact ha) (by rw [put_defers]; exact hd) (hg.ext' hs) hk (.inr hsub)
      · rw [wantD_sound hw he (by rw [ha]; exact hN)]
        simp only [Bool.false_eq_true, if_false]
        exact skip hw hr

theorem wpAny_of_M {Q : Env → Store → Prop} {Q' : Exit → Act → World → Prop} (hN : ∀ o ∈ ops, ∀ d, o.dst = some d → d < N) :
    ∀ (fuel : Nat) (listed : Array Bool) (E : Env) (S : Store) (ρ : Rho) (I : Nat → Prop) (w : World) (a : Act), St ρ I w S → ER ρ I w a E → a.tmps.size = N → a.defers = [] → k0 ≤ S.length → Sub SF S → Closed md ops listed →
      (∀ a' w', EndS k0 ρ I w N Q a' w' → Q' .normal a' w') →
      wpAnyM P cf SF md ops Q fuel listed E S → wpAny P md ops Q' fuel listed a w
  | 0, _, E, S, ρ, I, w, a, hs, he, ha, hd, _, _, _, hQ, h => ⟨h.1, hQ a w ⟨E, S, ρ, I, h.2, hs, he, ha, hd, Ext.refl _ _ _ _⟩⟩
  | fuel + 1, listed, E, S, ρ, I, w, a, hs, he, ha, hd, hk, hsub, hcl, hQ, h =>
    ⟨fun h0 => hQ a w ⟨E, S, ρ, I, h.1 h0, hs, he, ha, hd, Ext.refl _ _ _ _⟩, fun i hi =>
      mOp_sound (k0 := k0) hN hs he ha hd hk hsub (h.2 i hi) fun E' S' ρ' I' w' a' hE hs' he' ha' hd' hx hk' hsub' => by
        rcases hsub' with hz | hsub'
        · have h0 := closer_end hz hcl hi
          have hq : ∀ (f : Nat), wpAnyM P cf SF md ops Q f (listed.setIfInBounds i true) E' S' → wpAny P md ops Q' f (listed.setIfInBounds i true) a' w' := fun f hf => by
            cases f with
            | zero => exact ⟨h0, hQ a' w' ⟨E', S', ρ', I', hf.2, hs', he', ha', hd', hx⟩⟩
            | succ f => exact ⟨fun _ => hQ a' w' ⟨E', S', ρ', I', hf.1 h0, hs', he', ha', hd', hx⟩, fun j hj => by rw [h0] at hj; cases hj⟩
          exact hq fuel hE
        · exact wpAny_of_M hN fuel _ E' S' ρ' I' w' a' hs' he' ha' hd' hk' hsub' (closed_set hcl hi) (fun a'' w'' h'' => hQ a'' w'' (h''.trans hx)) hE⟩

end reg
end Go.V
