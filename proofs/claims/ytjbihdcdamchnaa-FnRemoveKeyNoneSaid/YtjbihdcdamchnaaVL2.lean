/- A part of the proofs about laws of the page tree (see the text that bears the law): a small language of steps, its rules, and what the functions of the program return. -/
import Derived.Test.YtjbihdcdamchnaaVL1
set_option linter.all false
set_option linter.unusedVariables false
set_option linter.unusedSimpArgs false
namespace Go.V

/-! CODE -/
/-- mode 1: nothing writes · 2: calls may write · 3: calls are pure · 4, 5: as 2, 3, in each order -/
def slimMode (P : Program) (ops : Array Oper) (m : Nat) : Option (Nat × RT) :=
  match m with
  | 1 => match slimFrees P ops ops.toList with
    | some l => if Region.lexB .any ops = true then some (1, .ofL l) else none
    | none => none
  | 2 => (greedyT P false 1 .any ops ops.size (Array.replicate ops.size false)).map fun t => (2, t)
  | 3 => (greedyT P true 1 .any ops ops.size (Array.replicate ops.size false)).map fun t => (3, t)
  | 4 => (greedyT P false 4 .any ops ops.size (Array.replicate ops.size false)).map fun t => (2, t)
  | 5 => (greedyT P true 4 .any ops ops.size (Array.replicate ops.size false)).map fun t => (3, t)
  | _ => none
def slimAuto (P : Program) (ops : Array Oper) : Option (Nat × RT) :=
  match if ops.any (xOp P false) then slimMode P ops 2 else none with
  | some r => some r
  | none => match slimMode P ops 1 with
    | some r => some r
    | none => match slimMode P ops 3 with
      | some r => some r
      | none => slimMode P ops 4
def slimReg (P : Program) (ops : Array Oper) (draw : Bool) (hint : Nat) : Option SCode :=
  if draw = false then (slimEffs P ops ops.toList).map fun l => .reg 0 (.ofL l)
  else (if hint = 0 then slimAuto P ops else slimMode P ops hint).map fun x => .reg x.1 x.2

def RegOK (P : Program) (ops : Array Oper) (draw : Bool) (m : Nat) (t : RT) : Prop :=
  (m = 0 ∧ draw = false ∧ ∃ l, t = .ofL l ∧ slimEffs P ops ops.toList = some l) ∨ (m = 1 ∧ draw = true ∧ (∃ l, t = .ofL l ∧ slimFrees P ops ops.toList = some l) ∧ Region.lexB .any ops = true) ∨
  (m = 2 ∧ draw = true ∧ ∃ wd, greedyT P false wd .any ops ops.size (Array.replicate ops.size false) = some t) ∨
  (m = 3 ∧ draw = true ∧ ∃ wd, greedyT P true wd .any ops ops.size (Array.replicate ops.size false) = some t)
theorem slimMode_ok {P : Program} {ops : Array Oper} {m m' : Nat} {t : RT} (h : slimMode P ops m = some (m', t)) : RegOK P ops true m' t := by
  unfold slimMode at h
  split at h
  · split at h
    · rename_i l hl
      split at h <;> simp at h
      rename_i hb
      obtain ⟨rfl, rfl⟩ := h
      exact .inr (.inl ⟨rfl, rfl, ⟨l, rfl, hl⟩, hb⟩)
    · simp at h
  · simp at h; obtain ⟨h1, rfl⟩ := h; exact .inr (.inr (.inl ⟨rfl, rfl, 1, h1⟩))
  · simp at h; obtain ⟨h1, rfl⟩ := h; exact .inr (.inr (.inr ⟨rfl, rfl, 1, h1⟩))
  · simp at h; obtain ⟨h1, rfl⟩ := h; exact .inr (.inr (.inl ⟨rfl, rfl, 4, h1⟩))
  · simp at h; obtain ⟨h1, rfl⟩ := h; exact .inr (.inr (.inr ⟨rfl, rfl, 4, h1⟩))
  · simp at h
theorem slimAuto_ok {P : Program} {ops : Array Oper} {m' : Nat} {t : RT} (h : slimAuto P ops = some (m', t)) : RegOK P ops true m' t := by
  unfold slimAuto at h
  split at h
  · rename_i r hr
    simp at h; subst h
    split at hr
    · exact slimMode_ok hr
    · simp at hr
  · split at h
    · rename_i r hr
      simp at h; subst h
      exact slimMode_ok hr
    · split at h
      · rename_i r hr
        simp at h; subst h
        exact slimMode_ok hr
      · exact slimMode_ok h
theorem slimReg_ok {P : Program} {ops : Array Oper} {draw : Bool} {hint : Nat} {sc : SCode} (h : slimReg P ops draw hint = some sc) : ∃ m l, sc = .reg m l ∧ RegOK P ops draw m l := by
  unfold slimReg at h
  split at h
  · rename_i hd
    obtain ⟨l, h1, h2⟩ := Option.map_eq_some_iff.1 h
    exact ⟨0, _, h2.symm, .inl ⟨rfl, hd, l, rfl, h1⟩⟩
  · rename_i hd
    have hd' : draw = true := by simpa using hd
    subst hd'
    obtain ⟨⟨m, t⟩, h1, h2⟩ := Option.map_eq_some_iff.1 h
    refine ⟨m, t, h2.symm, ?_⟩
    split at h1
    · exact slimAuto_ok h1
    · exact slimMode_ok h1

def hintOf : List (Nat × Nat) → Nat → Nat
  | [], _ => 0
  | (i, m) :: r, id => if i = id then m else hintOf r id

def slimC (P : Program) (N : Nat) (H : List (Nat × Nat)) : Code → Option SCode
  | .skip => some .skip
  | .region id ops draw => if dstsOK N ops then slimReg P ops draw (hintOf H id) else none
  | .seq a b => match slimC P N H a, slimC P N H b with
    | some a, some b => some (.seq a b)
    | _, _ => none
  | .cond c a b => match dOpd c, slimC P N H a, slimC P N H b with
    | some c, some a, some b => some (.cond c a b)
    | _, _, _ => none
  | .block id c => (slimC P N H c).map fun c => .block id c
  | .loop c => (slimC P N H c).map fun c => .loop c
  | .exit id => some (.exit id)
  | .ret => some .ret
  | _ => none

abbrev KK := Exit → Env → Store → Prop

def VW (P : Program) (N k0 : Nat) (c : Code) (K : KK) (E : Env) (S : Store) : Prop :=
  ∀ (ρ : Rho) (I : Nat → Prop) (w : World) (a : Act), St ρ I w S → ER ρ I w a E → a.tmps.size = N → a.defers = [] → k0 ≤ S.length → c.wp P (fun x a' w' => EndS k0 ρ I w N (K x) a' w') a w

/-- THE LOGIC: over slim code. -/
def VS (P : Program) (N k0 : Nat) (sc : SCode) (K : KK) (E : Env) (S : Store) : Prop := ∀ H c, slimC P N H c = some sc → VW P N k0 c K E S

/-- in between: what the values are may be looked at, forgotten, frozen -/
def Bd (k0 : Nat) (E : Env) (S : Store) (R : Env → Store → Prop) : Prop :=
  ∀ (ρ : Rho) (I : Nat → Prop) (w : World) (a : Act), St ρ I w S → ER ρ I w a E → k0 ≤ S.length → ∃ E' S' ρ' I', R E' S' ∧ St ρ' I' w S' ∧ ER ρ' I' w a E' ∧ Ext k0 ρ I w ρ' I' w

section rules
variable {P : Program} {N k0 : Nat} {K : KK} {E : Env} {S : Store}

theorem VS_bd {sc : SCode} (h : Bd k0 E S (VS P N k0 sc K)) : VS P N k0 sc K E S   := fun H c hc ρ I w a hs he ha hd hk => by
  obtain ⟨E', S', ρ', I', h1, h2, h3, h4⟩ := h ρ I w a hs he hk
  exact wp_mono (h1 H c hc ρ' I' w a h2 h3 ha hd (kept_of hs h2 h4 hk)) fun x a' w' hx => hx.trans h4

theorem slimC_cases {H : List (Nat × Nat)} {c : Code} {sc : SCode} (h : slimC P N H c = some sc) :
    (c = .skip ∧ sc = .skip) ∨ (∃ id ops draw m l, c = .region id ops draw ∧ sc = .reg m l ∧ dstsOK N ops = true ∧ RegOK P ops draw m l) ∨
    (∃ a b a' b', c = .seq a b ∧ sc = .seq a' b' ∧ slimC P N H a = some a' ∧ slimC P N H b = some b') ∨
    (∃ x x' a b a' b', c = .cond x a b ∧ sc = .cond x' a' b' ∧ dOpd x = some x' ∧ slimC P N H a = some a' ∧ slimC P N H b = some b') ∨
    (∃ id a a', c = .block id a ∧ sc = .block id a' ∧ slimC P N H a = some a') ∨
    (∃ a a', c = .loop a ∧ sc = .loop a' ∧ slimC P N H a = some a') ∨ (∃ id, c = .exit id ∧ sc = .exit id) ∨ (c = .ret ∧ sc = .ret) := by
  cases c with
  | skip => simp [slimC] at h; exact .inl ⟨rfl, h.symm⟩
  | region id ops draw =>
    simp only [slimC] at h
    split at h
    · rename_i hN
      obtain ⟨m, l, rfl, h1⟩ := slimReg_ok h
      exact .inr (.inl ⟨id, ops, draw, m, l, rfl, rfl, hN, h1⟩)
    · simp at h
  | seq a b =>
    simp only [slimC] at h
    split at h <;> simp at h
    rename_i a' b' h1 h2
    exact .inr (.inr (.inl ⟨a, b, a', b', rfl, h.symm, h1, h2⟩))
  | cond x a b =>
    simp only [slimC] at h
    split at h <;> simp at h
    rename_i x' a' b' h1 h2 h3
    exact .inr (.inr (.inr (.inl ⟨x, x', a, b, a', b', rfl, h.symm, h1, h2, h3⟩)))
  | block id a =>
    simp only [slimC] at h
    obtain ⟨l, hl, rfl⟩ := Option.map_eq_some_iff.1 h
    exact .inr (.inr (.inr (.inr (.inl ⟨id, a, l, rfl, rfl, hl⟩))))
  | loop a =>
    simp only [slimC] at h
    obtain ⟨l, hl, rfl⟩ := Option.map_eq_some_iff.1 h
    exact .inr (.inr (.inr (.inr (.inr (.inl ⟨a, l, rfl, rfl, hl⟩)))))
  | exit id => simp [slimC] at h; exact .inr (.inr (.inr (.inr (.inr (.inr (.inl ⟨id, rfl, h.symm⟩))))))
  | ret => simp [slimC] at h; exact .inr (.inr (.inr (.inr (.inr (.inr (.inr ⟨rfl, h.symm⟩))))))
  | _ => simp [slimC] at h

theorem VS_skip (h : K .normal E S) : VS P N k0 .skip K E S   := fun H c hc ρ I w a hs he ha hd hk => by
  rcases slimC_cases hc with ⟨rfl, h1⟩ | ⟨_, _, _, _, _, rfl, h1, _⟩ | ⟨_, _, _, _, rfl, h1, _⟩ | ⟨_, _, _, _, _, _, rfl, h1, _⟩ | ⟨_, _, _, rfl, h1, _⟩ | ⟨_, _, rfl, h1, _⟩ | ⟨id', rfl, h1⟩ | ⟨rfl, h1⟩ <;> simp at h1
  exact Go.wp_skip ⟨E, S, ρ, I, h, hs, he, ha, hd, Ext.refl _ _ _ _⟩

theorem VS_exit {id : Nat} (h : K (.exit id) E S) : VS P N k0 (.exit id) K E S   := fun H c hc ρ I w a hs he ha hd hk => by
  rcases slimC_cases hc with ⟨rfl, h1⟩ | ⟨_, _, _, _, _, rfl, h1, _⟩ | ⟨_, _, _, _, rfl, h1, _⟩ | ⟨_, _, _, _, _, _, rfl, h1, _⟩ | ⟨_, _, _, rfl, h1, _⟩ | ⟨_, _, rfl, h1, _⟩ | ⟨id', rfl, h1⟩ | ⟨rfl, h1⟩ <;> simp at h1
  subst h1
  exact Go.wp_exit ⟨E, S, ρ, I, h, hs, he, ha, hd, Ext.refl _ _ _ _⟩
theorem VS_ret (h : K .ret E S) : VS P N k0 .ret K E S   := fun H c hc ρ I w a hs he ha hd hk => by
  rcases slimC_cases hc with ⟨rfl, h1⟩ | ⟨_, _, _, _, _, rfl, h1, _⟩ | ⟨_, _, _, _, rfl, h1, _⟩ | ⟨_, _, _, _, _, _, rfl, h1, _⟩ | ⟨_, _, _, rfl, h1, _⟩ | ⟨_, _, rfl, h1, _⟩ | ⟨id', rfl, h1⟩ | ⟨rfl, h1⟩ <;> simp at h1
  exact Go.wp_ret ⟨E, S, ρ, I, h, hs, he, ha, hd, Ext.refl _ _ _ _⟩

def KThen (next : Env → Store → Prop) (K : KK) : KK
  | .normal, E, S => next E S
  | x, E, S => K x E S
def KBlock (id : Nat) (K : KK) : KK
  | .exit id', E, S => if id' = id then K .normal E S else K (.exit id') E S
  | x, E, S => K x E S

theorem VS_seq {a b : SCode} (h : VS P N k0 a (KThen (VS P N k0 b K) K) E S) : VS P N k0 (.seq a b) K E S   := fun H c hc ρ I w ac hs he ha hd hk => by
  rcases slimC_cases hc with ⟨rfl, h1⟩ | ⟨_, _, _, _, _, rfl, h1, _⟩ | ⟨ca, cb, a', b', rfl, h1, h2, h3⟩ | ⟨_, _, _, _, _, _, rfl, h1, _⟩ | ⟨_, _, _, rfl, h1, _⟩ | ⟨_, _, rfl, h1, _⟩ | ⟨id', rfl, h1⟩ | ⟨rfl, h1⟩ <;> simp at h1
  obtain ⟨rfl, rfl⟩ := h1
  refine Go.wp_seq (wp_mono (h H ca h2 ρ I w ac hs he ha hd hk) fun x a' w' hx => ?_)
  cases x with
  | normal =>
    obtain ⟨E2, S2, ρ2, I2, q1, q2, q3, q4, q5, q6⟩ := hx
    exact wp_mono (q1 H cb h3 ρ2 I2 w' a' q2 q3 q4 q5 (kept_of hs q2 q6 hk)) fun x a'' w'' hy => hy.trans q6
  | _ => exact hx

theorem VS_block {id : Nat} {b : SCode} (h : VS P N k0 b (KBlock id K) E S) : VS P N k0 (.block id b) K E S   := fun H c hc ρ I w ac hs he ha hd hk => by
  rcases slimC_cases hc with ⟨rfl, h1⟩ | ⟨_, _, _, _, _, rfl, h1, _⟩ | ⟨_, _, _, _, rfl, h1, _⟩ | ⟨_, _, _, _, _, _, rfl, h1, _⟩ | ⟨id', ca, a', rfl, h1, h2⟩ | ⟨_, _, rfl, h1, _⟩ | ⟨id', rfl, h1⟩ | ⟨rfl, h1⟩ <;> simp at h1
  obtain ⟨rfl, rfl⟩ := h1
  refine Go.wp_block (wp_mono (h H ca h2 ρ I w ac hs he ha hd hk) fun x a' w' hx => ?_)
  cases x with
  | exit id' =>
    have hk : KBlock id K (.exit id') = if id' = id then K .normal else K (.exit id') := by
      funext E S; simp only [KBlock]; split <;> rfl
    rw [hk] at hx
    simp only [Exit.inBlock]
    split
    · rename_i e; rw [if_pos e] at hx; exact hx
    · rename_i e; rw [if_neg e] at hx; exact hx
  | _ => exact hx

theorem VS_cond {x : Opd} {a b : SCode} {t : Bool} (hx : ev E x = .pv (.bool t)) (h1 : t = true → VS P N k0 a K E S) (h2 : t = false → VS P N k0 b K E S) : VS P N k0 (.cond x a b) K E S   := fun H c hc ρ I w ac hs he ha hd hk => by
  rcases slimC_cases hc with ⟨rfl, e1⟩ | ⟨_, _, _, _, _, rfl, e1, _⟩ | ⟨_, _, _, _, rfl, e1, _⟩ | ⟨xo, x', ca, cb, a', b', rfl, e1, e2, e3, e4⟩ | ⟨_, _, _, rfl, e1, _⟩ | ⟨_, _, rfl, e1, _⟩ | ⟨id', rfl, e1⟩ | ⟨rfl, e1⟩ <;> simp at e1
  obtain ⟨rfl, rfl, rfl⟩ := e1
  have g := dOpd_sound (a := ac) e2 fun t _ => he t
  rw [hx, rd_bool] at g
  exact Go.wp_cond_split g (fun ht => h1 ht H ca e3 ρ I w ac hs he ha hd hk) (fun ht => h2 ht H cb e4 ρ I w ac hs he ha hd hk)

theorem reg_inv {H : List (Nat × Nat)} {c : Code} {m : Nat} {l : RT} (hc : slimC P N H c = some (.reg m l)) : ∃ id ops draw, c = .region id ops draw ∧ dstsOK N ops = true ∧ RegOK P ops draw m l := by
  rcases slimC_cases hc with ⟨rfl, h1⟩ | ⟨id, ops, draw, m', l', rfl, h1, h2, h3⟩ | ⟨_, _, _, _, rfl, h1, _⟩ | ⟨_, _, _, _, _, _, rfl, h1, _⟩ | ⟨_, _, _, rfl, h1, _⟩ | ⟨_, _, rfl, h1, _⟩ | ⟨id', rfl, h1⟩ | ⟨rfl, h1⟩ <;> simp at h1
  obtain ⟨rfl, rfl⟩ := h1
  exact ⟨id, ops, draw, rfl, h2, h3⟩

theorem ofL_inj : ∀ {l l' : List SO}, RT.ofL l = RT.ofL l' → l = l'
  | [], [], _ => rfl
  | [], _ :: _, h => by simp [RT.ofL] at h
  | _ :: _, [], h => by simp [RT.ofL] at h
  | a :: l, b :: l', h => by
    simp only [RT.ofL, RT.op.injEq] at h
    rw [h.1, ofL_inj h.2]
theorem VS_free {l : List SO} (hm : P.follows .mixedOrders = true) (h : regF P S l E fun E => K .normal E S) : VS P N k0 (.reg 1 (.ofL l)) K E S := fun H c hc ρ I w ac hs he ha hd hk => by
  obtain ⟨id, ops, draw, rfl, h2, h3⟩ := reg_inv hc
  rcases h3 with ⟨h0, _⟩ | ⟨_, hdr, ⟨l', h6, h4⟩, h5⟩ | ⟨h0, _⟩ | ⟨h0, _⟩ <;> try (cases h0; done)
  have := ofL_inj h6
  subst this
  exact wp_free (dstsOK_spec h2) hm (fun _ => h5) hs he ha (fun E' I' w' a' q1 q2 q3 q4 q5 q6 => ⟨E', S, ρ, I', q1, q2, q3, q4, by rw [q5]; exact hd, q6.ext' hs⟩) (regF_sound h4 h)

theorem VS_reg {l : List SO} (h : regS P l E S fun E S => K .normal E S) : VS P N k0 (.reg 0 (.ofL l)) K E S := fun H c hc ρ I w ac hs he ha hd hk => by
  obtain ⟨id, ops, draw, rfl, h2, h3⟩ := reg_inv hc
  rcases h3 with ⟨_, hdr, l', h6, h4⟩ | ⟨h0, _⟩ | ⟨h0, _⟩ | ⟨h0, _⟩ <;> try (cases h0; done)
  have := ofL_inj h6
  subst this
  subst hdr
  refine wp_region ?_
  have := regS_sound (Q' := fun x a' w' => EndS k0 ρ I w N (K x) a' w') (k := 0) (dstsOK_spec h2) h4 h (by simp) hs he ha hd hk (fun a' w' hx => hx)
  simpa [List.range_eq_range'] using this

/-- any order, with operations that write; SF: what they leave alone -/
theorem VS_mix {cf : Bool} {t : RT} (SF : Store) (hm : P.follows .mixedOrders = true) (hsub : Sub SF S) (h : regM P cf SF t E S fun E S => K .normal E S) : VS P N k0 (.reg (if cf then 3 else 2) t) K E S := fun H c hc ρ I w ac hs he ha hd hk => by
  obtain ⟨id, ops, draw, rfl, h2, h3⟩ := reg_inv hc
  have h4 : draw = true ∧ ∃ wd, greedyT P cf wd .any ops ops.size (Array.replicate ops.size false) = some t := by
    cases cf <;> rcases h3 with ⟨h0, _⟩ | ⟨h0, _⟩ | ⟨h0, h4⟩ | ⟨h0, h4⟩ <;> first | exact h4 | (simp at h0)
  obtain ⟨hdr, wd, h4⟩ := h4
  subst hdr
  have hg : Grow I w I { w with drawn := w.drawn + 1 } := ⟨rfl, rfl, rfl, Nat.le_refl _, fun _ _ => rfl, fun _ h => h, fun _ h => .inl h⟩
  refine wp_region_any hm ?_
  exact wpAny_of_M (k0 := k0) (SF := SF) (md := .any) (cf := cf) (Q := fun E S => K .normal E S) (dstsOK_spec h2) ops.size _ E S ρ I { w with drawn := w.drawn + 1 } ac (hs.grow hg) (he.grow hs hg) ha hd hk hsub
    (fun q hq => by rw [Array.getD_eq_getD_getElem?, Array.getElem?_replicate] at hq; split at hq <;> simp at hq)
    (fun a' w' h' => h'.trans (hg.ext' hs)) (regM_any _ _ t E S h4 h)

theorem exists_min {p : Nat → Prop} (h : ∃ n, p n) : ∃ n, p n ∧ ∀ m, p m → n ≤ m := by
  obtain ⟨n, hn⟩ := h
  induction n using Nat.strongRecOn with
  | _ n ih =>
    by_cases hlt : ∃ m, m < n ∧ p m
    · obtain ⟨m, h1, h2⟩ := hlt; exact ih m h1 h2
    · exact ⟨n, hn, fun m hm => Nat.le_of_not_lt fun h => hlt ⟨m, h, hm⟩⟩

open Classical in
theorem VS_loop {b : SCode} (J : Nat → Env → Store → Prop) (h0 : ∃ n, J n E S)
    (hr : ∀ n E S, J n E S → VS P N k0 b (KThen (fun E' S' => Bd k0 E' S' fun E' S' => ∃ m, m < n ∧ J m E' S') K) E S) : VS P N k0 (.loop b) K E S   := fun H c hc ρ I w ac hs he ha hd hk => by
  rcases slimC_cases hc with ⟨rfl, h1⟩ | ⟨_, _, _, _, _, rfl, h1, _⟩ | ⟨_, _, _, _, rfl, h1, _⟩ | ⟨_, _, _, _, _, _, rfl, h1, _⟩ | ⟨_, _, _, rfl, h1, _⟩ | ⟨ca, b', rfl, h1, h2⟩ | ⟨id', rfl, h1⟩ | ⟨rfl, h1⟩ <;> simp at h1
  subst h1
  let R : Nat → Act → World → Prop := fun n a' w' => ∃ E' S' ρ' I', J n E' S' ∧ St ρ' I' w' S' ∧ ER ρ' I' w' a' E' ∧ a'.tmps.size = N ∧ a'.defers = [] ∧ Ext k0 ρ I w ρ' I' w'
  let mu : Act → World → Nat := fun a' w' => if h : ∃ n, R n a' w' then Classical.choose (exists_min h) else 0
  obtain ⟨n0, hn0⟩ := h0
  refine Go.wp_loop (fun a' w' => ∃ n, R n a' w') mu ⟨n0, E, S, ρ, I, hn0, hs, he, ha, hd, Ext.refl _ _ _ _⟩ fun a1 w1 hI => ?_
  have hmu : mu a1 w1 = Classical.choose (exists_min hI) := by simp only [mu]; rw [dif_pos hI]
  obtain ⟨E1, S1, ρ1, I1, j1, j2, j3, j4, j5, j6⟩ := (Classical.choose_spec (exists_min hI)).1
  refine wp_mono (hr _ E1 S1 j1 H ca h2 ρ1 I1 w1 a1 j2 j3 j4 j5 (kept_of hs j2 j6 hk)) fun x a2 w2 hx => ?_
  cases x with
  | normal =>
    obtain ⟨E2, S2, ρ2, I2, q1, q2, q3, q4, q5, q6⟩ := hx
    obtain ⟨E3, S3, ρ3, I3, ⟨m, hm, hJ⟩, r2, r3, r4⟩ := q1 ρ2 I2 w2 a2 q2 q3 (kept_of hs q2 (j6.trans q6) hk)
    have hR : R m a2 w2 := ⟨E3, S3, ρ3, I3, hJ, r2, r3, q4, q5, (j6.trans q6).trans r4⟩
    refine ⟨⟨m, hR⟩, ?_⟩
    have hex : ∃ n, R n a2 w2 := ⟨m, hR⟩
    have h3 : mu a2 w2 = Classical.choose (exists_min hex) := by simp only [mu]; rw [dif_pos hex]
    rw [hmu, h3]
    exact Nat.lt_of_le_of_lt ((Classical.choose_spec (exists_min hex)).2 m hR) hm
  | _ => exact hx.trans j6

end rules
end Go.V
