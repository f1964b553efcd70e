/- A part of the proofs about laws of the page tree (see the text that bears the law): a small language of steps, its rules, and what the functions of the program return. -/
import Derived.Test.YtjbihdcdamchnaaVN
set_option linter.all false
set_option linter.unusedVariables false
set_option linter.unusedSimpArgs false
namespace Go.V

/-! ## steps over slots as lists -/
/-- how a region is walked: in order; or drawn, with what no writing operation touches, and whether calls are pure -/
inductive SM where
  | seq
  | mix (cf : Bool) (SF : Store)
def isXm (sf : SM) (op : SOp) : Bool :=
  match sf with
  | .seq => isX op || isLit op
  | .mix cf _ => isXc cf op
def fs (sf : SM) (S : Store) : Store :=
  match sf with
  | .seq => S
  | .mix _ SF => SF
def sOK (sf : SM) (S : Store) : Prop :=
  match sf with
  | .seq => True
  | .mix _ SF => Sub SF S
/-- calls may write -/
def cOK (sf : SM) : Bool :=
  match sf with
  | .seq => true
  | .mix cf _ => !cf
def stepX (P : Program) (sf : SM) (op : SOp) (E : Env) (S : Store) (c : D → Store → Prop) : Prop :=
  if isXm sf op then stepS P op E S fun d S' => sOK sf S' ∧ c d S' else stepF P (fs sf S) op E fun d => c d S
def RG (P : Program) (sf : SM) : RT → Env → Store → (Env → Store → Prop) → Prop
  | .nil, E, S, K => K E S
  | .or a b, E, S, K => RG P sf a E S K ∧ RG P sf b E S K
  | .last o, E, S, K => match o.guard with
    | none => stepS P o.op E S fun d S => K (put E o.dst d) S
    | some (g, want) => match E g with
      | .pv (.bool t) => (t = want → stepS P o.op (put E (some g) (.pv (.bool want))) S fun d S => K (put (put E (some g) (.pv (.bool want))) o.dst d) S) ∧
          (t = !want → K (put (put E (some g) (.pv (.bool (!want)))) o.dst .undef) S)
      | .undef => K (put E o.dst .undef) S
      | _ => False
  | .op o rest, E, S, K => match o.guard with
    | none => stepX P sf o.op E S fun d S => RG P sf rest (put E o.dst d) S K
    | some (g, want) => match E g with
      | .pv (.bool t) => (t = want → stepX P sf o.op (put E (some g) (.pv (.bool want))) S fun d S => RG P sf rest (put (put E (some g) (.pv (.bool want))) o.dst d) S K) ∧
          (t = !want → RG P sf rest (put (put E (some g) (.pv (.bool (!want)))) o.dst .undef) S K)
      | .undef => RG P sf rest (put E o.dst .undef) S K
      | _ => False

theorem RG_mix {P : Program} {cf : Bool} {SF : Store} {K : Env → Store → Prop} : ∀ {t : RT} {E : Env} {S : Store}, RG P (.mix cf SF) t E S K = regM P cf SF t E S K
  | .nil, _, _ => rfl
  | .or a b, E, S => by simp only [RG, regM]; rw [RG_mix (t := a), RG_mix (t := b)]
  | .last o, E, S => rfl
  | .op o r, E, S => by
    have hs : ∀ E' (f : D → Env), stepX P (.mix cf SF) o.op E' S (fun d S => RG P (.mix cf SF) r (f d) S K) = stepM P cf SF o.op E' S fun d S => regM P cf SF r (f d) S K := fun E' f => by
      have : (fun d S => RG P (.mix cf SF) r (f d) S K) = fun d S => regM P cf SF r (f d) S K := by funext d S; exact RG_mix
      rw [this]; rfl
    unfold RG regM
    cases o.guard with
    | none => exact hs E _
    | some gw =>
      obtain ⟨g, want⟩ := gw
      dsimp only
      cases E g with
      | pv p =>
        cases p with
        | bool t =>
          dsimp only
          rw [hs _ fun d => put (put E (some g) (.pv (.bool want))) o.dst d, RG_mix (t := r)]
        | _ => rfl
      | undef => exact RG_mix
      | _ => rfl
theorem RG_last {P : Program} {sf : SM} {o : SO} {E : Env} {S : Store} {K : Env → Store → Prop} (h : RG P .seq (.op o .nil) E S K) : RG P sf (.last o) E S K := by
  have key : ∀ E' (f : D → Env), stepX P .seq o.op E' S (fun d S => RG P .seq .nil (f d) S K) → stepS P o.op E' S fun d S => K (f d) S := fun E' f h => by
    unfold stepX at h
    split at h
    · have e : (fun d S' => sOK .seq S' ∧ RG P .seq .nil (f d) S' K) = fun d S' => K (f d) S' := by funext d S'; simp [sOK, RG]
      rw [e] at h; exact h
    · rename_i hx
      have h2 : isX o.op = false ∧ isLit o.op = false := by simpa [isXm] using hx
      rw [stepS_free h2.1 h2.2]
      exact h
  unfold RG at h ⊢
  cases hg : o.guard with
  | none => rw [hg] at h; exact key E _ h
  | some gw =>
    obtain ⟨g, want⟩ := gw
    rw [hg] at h
    dsimp only at h ⊢
    split at h
    · rename_i t ht
      exact ⟨fun e => key _ (fun d => put (put E (some g) (.pv (.bool want))) o.dst d) (h.1 e), fun e => h.2 e⟩
    · exact h
    · exact h.elim
theorem RG_seq {P : Program} {K : Env → Store → Prop} : ∀ {l : List SO} {E : Env} {S : Store}, RG P .seq (.ofL l) E S K = regS P l E S K
  | [], _, _ => rfl
  | o :: r, E, S => by
    have hs : ∀ E' (f : D → Env), stepX P .seq o.op E' S (fun d S => RG P .seq (.ofL r) (f d) S K) = stepS P o.op E' S fun d S => regS P r (f d) S K := fun E' f => by
      have : (fun d S => RG P .seq (.ofL r) (f d) S K) = fun d S => regS P r (f d) S K := by funext d S; exact RG_seq
      rw [this]
      unfold stepX
      split
      · congr 1
        funext d S'
        simp [sOK]
      · rename_i hx
        have h2 : isX o.op = false ∧ isLit o.op = false := by simpa [isXm] using hx
        rw [stepS_free h2.1 h2.2]; rfl
    unfold RT.ofL RG regS
    cases o.guard with
    | none => exact hs E _
    | some gw =>
      obtain ⟨g, want⟩ := gw
      dsimp only
      cases E g with
      | pv p =>
        cases p with
        | bool t =>
          dsimp only
          rw [hs _ fun d => put (put E (some g) (.pv (.bool want))) o.dst d, RG_seq (l := r)]
        | _ => rfl
      | undef => exact RG_seq
      | _ => rfl
theorem isXc_tr {op : SOp} (h : isXc true op = false) : isX op = false ∨ (∃ f as, op = .call f as) ∨ ∃ x as, op = .callv x as := by
  cases op <;> simp [isXc] at h ⊢ <;> exact h
theorem RG_free {P : Program} {S : Store} : ∀ {l : List SO} {E : Env} {K : Env → Store → Prop}, l.all (fun o => !isXc true o.op) = true → RG P (.mix true S) (.ofL l) E S K = regF P S l E fun E => K E S
  | [], E, K, _ => rfl
  | o :: r, E, K, h => by
    simp only [List.all_cons, Bool.and_eq_true, Bool.not_eq_true'] at h
    have hs : ∀ E' (f : D → Env), stepX P (.mix true S) o.op E' S (fun d S' => RG P (.mix true S) (.ofL r) (f d) S' K) = stepF P S o.op E' fun d => regF P S r (f d) fun E => K E S := fun E' f => by
      unfold stepX
      rw [if_neg (by simp [isXm, h.1])]
      simp only [fs]
      congr 1
      funext d
      exact RG_free h.2
    unfold RT.ofL RG regF
    cases o.guard with
    | none => exact hs E _
    | some gw =>
      obtain ⟨g, want⟩ := gw
      dsimp only
      cases E g with
      | pv p =>
        cases p with
        | bool t =>
          dsimp only
          rw [hs _ fun d => put (put E (some g) (.pv (.bool want))) o.dst d, RG_free h.2]
        | _ => rfl
      | undef => exact RG_free h.2
      | _ => rfl

section base
variable {P : Program} {sf : SM} {r : RT} {E : Env} {S : Store} {K : Env → Store → Prop} {t : Option Nat} {op : SOp}
theorem rg_nil (h : K E S) : RG P sf .nil E S K := h
theorem isXm_false (h : isX op = false) (hl : isLit op = false) : isXm sf op = false := by
  cases sf with
  | seq => simp [isXm, h, hl]
  | mix cf SF => cases op <;> first | exact h | (simp [isX] at h)
theorem rF (hx : isXm sf op = false) (h : stepF P (fs sf S) op E fun d => RG P sf r (put E t d) S K) : RG P sf (.op ⟨t, none, op⟩ r) E S K := by
  simp only [RG, stepX]; rw [if_neg (by simp [hx])]; exact h
theorem rX (hx : isXm sf op = true) (h : stepS P op E S fun d S' => sOK sf S' ∧ RG P sf r (put E t d) S' K) : RG P sf (.op ⟨t, none, op⟩ r) E S K := by
  simp only [RG, stepX]; rw [if_pos hx]; exact h
theorem rg_t {g : Nat} {want : Bool} (hg : E g = .pv (.bool want)) (h : RG P sf (.op ⟨t, none, op⟩ r) E S K) : RG P sf (.op ⟨t, some (g, want), op⟩ r) E S K := by
  simp only [RG] at h ⊢
  simp only [hg]
  refine ⟨fun _ => ?_, fun e => by cases want <;> cases e⟩
  rw [put_same hg]; exact h
theorem rg_f {g : Nat} {want b : Bool} (hg : E g = .pv (.bool b)) (hb : b = !want) (h : RG P sf r (put E t .undef) S K) : RG P sf (.op ⟨t, some (g, want), op⟩ r) E S K := by
  subst hb
  have hp := put_same hg
  cases want <;> simp only [Bool.not_true, Bool.not_false] at hg hp <;> simp only [RG, hg] at h ⊢ <;> simp [hp] <;> exact h
theorem rg_u {g : Nat} {want : Bool} (hg : E g = .undef) (h : RG P sf r (put E t .undef) S K) : RG P sf (.op ⟨t, some (g, want), op⟩ r) E S K := by
  simp only [RG, hg]; exact h
theorem rg_b {g : Nat} {want b : Bool} (hg : E g = .pv (.bool b)) (h1 : b = want → RG P sf (.op ⟨t, some (g, want), op⟩ r) (put E (some g) (.pv (.bool want))) S K)
    (h2 : b = !want → RG P sf (.op ⟨t, some (g, want), op⟩ r) (put E (some g) (.pv (.bool (!want)))) S K) : RG P sf (.op ⟨t, some (g, want), op⟩ r) E S K := by
  by_cases hb : b = want
  · have := h1 hb
    subst hb
    rwa [put_same hg] at this
  · have hb' : b = !want := by cases b <;> cases want <;> simp_all
    have := h2 hb'
    rw [← hb', put_same hg] at this
    exact this
theorem rg_or {a b : RT} (h1 : RG P sf a E S K) (h2 : RG P sf b E S K) : RG P sf (.or a b) E S K := ⟨h1, h2⟩
end base

section vs
variable {P : Program} {N k0 : Nat} {K : KK} {E : Env} {S : Store}
def allF : RT → Bool
  | .nil => true
  | .or _ _ => false
  | .last _ => false
  | .op o t => !isXc true o.op && allF t
def lin : RT → Bool
  | .nil => true
  | .or _ _ => false
  | .last _ => false
  | .op _ t => lin t
theorem lin_ofL : ∀ {t : RT}, lin t = true → ∃ l, t = .ofL l
  | .nil, _ => ⟨[], rfl⟩
  | .or _ _, h => by simp [lin] at h
  | .last _, h => by simp [lin] at h
  | .op o t, h => by
    obtain ⟨l, rfl⟩ := lin_ofL (t := t) h
    exact ⟨o :: l, rfl⟩
theorem allF_ofL : ∀ {t : RT}, allF t = true → ∃ l, t = .ofL l ∧ l.all (fun o => !isXc true o.op) = true
  | .nil, _ => ⟨[], rfl, rfl⟩
  | .or _ _, h => by simp [allF] at h
  | .last _, h => by simp [allF] at h
  | .op o t, h => by
    simp only [allF, Bool.and_eq_true] at h
    obtain ⟨l, rfl, h2⟩ := allF_ofL h.2
    exact ⟨o :: l, rfl, by simp only [List.all_cons, h.1, h2, Bool.and_self]⟩
theorem VS_r0 {t : RT} (hl : lin t = true) (h : RG P .seq t E S (K .normal)) : VS P N k0 (.reg 0 t) K E S := by
  obtain ⟨l, rfl⟩ := lin_ofL hl
  rw [RG_seq] at h
  exact VS_reg h
theorem VS_r1 {t : RT} (hm : P.follows .mixedOrders = true) (hl : allF t = true) (h : RG P (.mix true S) t E S (K .normal)) : VS P N k0 (.reg 1 t) K E S := by
  obtain ⟨l, rfl, hl'⟩ := allF_ofL hl
  rw [RG_free hl'] at h
  exact VS_free hm h
theorem VS_r2 {t : RT} (SF : Store) (hm : P.follows .mixedOrders = true) (hsub : Sub SF S) (h : RG P (.mix false SF) t E S (K .normal)) : VS P N k0 (.reg 2 t) K E S := by
  rw [RG_mix] at h
  exact VS_mix (cf := false) SF hm hsub h
theorem VS_r3 {t : RT} (SF : Store) (hm : P.follows .mixedOrders = true) (hsub : Sub SF S) (h : RG P (.mix true SF) t E S (K .normal)) : VS P N k0 (.reg 3 t) K E S := by
  rw [RG_mix] at h
  exact VS_mix (cf := true) SF hm hsub h
end vs

/-! one step each -/
section q
variable {P : Program} {sf : SM} {r : RT} {L : List (Nat × D)} {S : Store} {K : Env → Store → Prop} {t : Nat}
theorem qF {op : SOp} (hx : (isX op || isLit op) = false) (h : stepF P (fs sf S) op (env L) fun d => RG P sf r (env ((t, d) :: L)) S K) : RG P sf (.op ⟨some t, none, op⟩ r) (env L) S K := by
  refine rF (isXm_false (by simp only [Bool.or_eq_false_iff] at hx; exact hx.1) (by simp only [Bool.or_eq_false_iff] at hx; exact hx.2)) ?_
  simp only [put_env]
  exact h
theorem q_mv {x : Opd} {d : D} (hx : ev (env L) x = d) (h : RG P sf r (env ((t, d) :: L)) S K) : RG P sf (.op ⟨some t, none, .mv x⟩ r) (env L) S K := by
  subst hx; exact qF rfl h
theorem q_mv_i {x : Opd} {k : IntKind} {n : Int} (hx : ev (env L) x = .pv (.int k n)) (h : RG P sf r (env ((t, .pv (.int k n)) :: L)) S K) : RG P sf (.op ⟨some t, none, .mv x⟩ r) (env L) S K := q_mv hx h
theorem q_mv_b {x : Opd} {n : Bool} (hx : ev (env L) x = .pv (.bool n)) (h : RG P sf r (env ((t, .pv (.bool n)) :: L)) S K) : RG P sf (.op ⟨some t, none, .mv x⟩ r) (env L) S K := q_mv hx h
theorem q_mv_s {x : Opd} {xs : List PV} (hx : ev (env L) x = .pv (.sl xs)) (h : RG P sf r (env ((t, .pv (.sl xs)) :: L)) S K) : RG P sf (.op ⟨some t, none, .mv x⟩ r) (env L) S K := q_mv hx h
theorem q_mv_p {x : Opd} {p : PV} (hx : ev (env L) x = .pv p) (h : RG P sf r (env ((t, .pv p) :: L)) S K) : RG P sf (.op ⟨some t, none, .mv x⟩ r) (env L) S K := q_mv hx h
theorem q_mv_n {x : Opd} (hx : ev (env L) x = .nils) (h : RG P sf r (env ((t, .nils) :: L)) S K) : RG P sf (.op ⟨some t, none, .mv x⟩ r) (env L) S K := q_mv hx h
theorem q_mv_r {x : Opd} {o i j : Nat} (hx : ev (env L) x = .ptr o i j) (h : RG P sf r (env ((t, .ptr o i j) :: L)) S K) : RG P sf (.op ⟨some t, none, .mv x⟩ r) (env L) S K := q_mv hx h
theorem q_mv_o {x : Opd} {o n : Nat} (hx : ev (env L) x = .own o n) (h : RG P sf r (env ((t, .own o n) :: L)) S K) : RG P sf (.op ⟨some t, none, .mv x⟩ r) (env L) S K := q_mv hx h
theorem q_mv_a {x : Opd} {cs : List D} (hx : ev (env L) x = .agg cs) (h : RG P sf r (env ((t, .agg cs) :: L)) S K) : RG P sf (.op ⟨some t, none, .mv x⟩ r) (env L) S K := q_mv hx h
theorem q_mv_u {x : Opd} {ds : List D} (hx : ev (env L) x = .tup ds) (h : RG P sf r (env ((t, .tup ds) :: L)) S K) : RG P sf (.op ⟨some t, none, .mv x⟩ r) (env L) S K := q_mv hx h
theorem q_mv_c {x : Opd} {f : FuncId} {ds : List D} (hx : ev (env L) x = .clo f ds) (h : RG P sf r (env ((t, .clo f ds) :: L)) S K) : RG P sf (.op ⟨some t, none, .mv x⟩ r) (env L) S K := q_mv hx h
theorem q_pick_t {x a b : Opd} {d : D} (hx : ev (env L) x = .pv (.bool true)) (ha : ev (env L) a = d) (h : RG P sf r (env ((t, d) :: L)) S K) : RG P sf (.op ⟨some t, none, .pick x a b⟩ r) (env L) S K := by
  subst ha
  refine qF rfl ?_
  simp only [stepF, hx]
  exact ⟨fun _ => h, fun e => by cases e⟩
theorem q_pick_f {x a b : Opd} {d : D} (hx : ev (env L) x = .pv (.bool false)) (ha : ev (env L) b = d) (h : RG P sf r (env ((t, d) :: L)) S K) : RG P sf (.op ⟨some t, none, .pick x a b⟩ r) (env L) S K := by
  subst ha
  refine qF rfl ?_
  simp only [stepF, hx]
  exact ⟨fun e => (by cases e), fun _ => h⟩
/-- and / or: both ways are booleans -/
theorem q_pick_b {x a b : Opd} {c y z : Bool} (hx : ev (env L) x = .pv (.bool c)) (ha : ev (env L) a = .pv (.bool y)) (hb : ev (env L) b = .pv (.bool z)) (h : RG P sf r (env ((t, .pv (.bool (if c then y else z))) :: L)) S K) : RG P sf (.op ⟨some t, none, .pick x a b⟩ r) (env L) S K := by
  refine qF rfl ?_
  simp only [stepF, hx, ha, hb]
  exact ⟨fun e => by subst e; exact h, fun e => by subst e; exact h⟩
theorem q_bin {op : BinOp} {x y : Opd} {k k' : IntKind} {a b : Int} (hx : ev (env L) x = .pv (.int k a)) (hy : ev (env L) y = .pv (.int k' b)) (hk : k = k' ∨ op = .shr)
    (h : binI op k a b fun d => RG P sf r (env ((t, d) :: L)) S K) : RG P sf (.op ⟨some t, none, .bin op x y⟩ r) (env L) S K := by
  refine qF rfl ?_
  simp only [stepF, hx, hy, binD]
  exact ⟨hk, h⟩
theorem q_add {x y : Opd} {k : IntKind} {a b : Int} (hx : ev (env L) x = .pv (.int k a)) (hy : ev (env L) y = .pv (.int k b)) (hr : inR k (a + b)) (h : RG P sf r (env ((t, .pv (.int k (a + b))) :: L)) S K) :
    RG P sf (.op ⟨some t, none, .bin .add x y⟩ r) (env L) S K := q_bin hx hy (.inl rfl) ⟨hr, h⟩
theorem q_sub {x y : Opd} {k : IntKind} {a b : Int} (hx : ev (env L) x = .pv (.int k a)) (hy : ev (env L) y = .pv (.int k b)) (hr : inR k (a - b)) (h : RG P sf r (env ((t, .pv (.int k (a - b))) :: L)) S K) :
    RG P sf (.op ⟨some t, none, .bin .sub x y⟩ r) (env L) S K := q_bin hx hy (.inl rfl) ⟨hr, h⟩
theorem q_mul {x y : Opd} {k : IntKind} {a b : Int} (hx : ev (env L) x = .pv (.int k a)) (hy : ev (env L) y = .pv (.int k b)) (hr : inR k (a * b)) (h : RG P sf r (env ((t, .pv (.int k (a * b))) :: L)) S K) :
    RG P sf (.op ⟨some t, none, .bin .mul x y⟩ r) (env L) S K := q_bin hx hy (.inl rfl) ⟨hr, h⟩
theorem q_quo {x y : Opd} {k : IntKind} {a b : Int} (hx : ev (env L) x = .pv (.int k a)) (hy : ev (env L) y = .pv (.int k b)) (hr : 0 ≤ a ∧ 0 < b ∧ inR k (a / b)) (h : RG P sf r (env ((t, .pv (.int k (a / b))) :: L)) S K) :
    RG P sf (.op ⟨some t, none, .bin .quo x y⟩ r) (env L) S K := q_bin hx hy (.inl rfl) ⟨hr, h⟩
theorem q_rem {x y : Opd} {k : IntKind} {a b : Int} (hx : ev (env L) x = .pv (.int k a)) (hy : ev (env L) y = .pv (.int k b)) (hr : 0 ≤ a ∧ 0 < b) (h : RG P sf r (env ((t, .pv (.int k (a % b))) :: L)) S K) :
    RG P sf (.op ⟨some t, none, .bin .rem x y⟩ r) (env L) S K := q_bin hx hy (.inl rfl) ⟨hr, h⟩
theorem q_xor {x y : Opd} {k : IntKind} {a b : Int} (hx : ev (env L) x = .pv (.int k a)) (hy : ev (env L) y = .pv (.int k b)) (hr : 0 ≤ a ∧ 0 ≤ b ∧ a ≤ k.max ∧ b ≤ k.max)
    (h : RG P sf r (env ((t, .pv (.int k ((a.toNat ^^^ b.toNat : Nat) : Int))) :: L)) S K) : RG P sf (.op ⟨some t, none, .bin .xor x y⟩ r) (env L) S K := q_bin hx hy (.inl rfl) ⟨hr, h⟩
theorem q_shr {x y : Opd} {k k' : IntKind} {a b : Int} (hx : ev (env L) x = .pv (.int k a)) (hy : ev (env L) y = .pv (.int k' b)) (hr : 0 ≤ a ∧ 0 ≤ b ∧ b ≤ 8) (h : RG P sf r (env ((t, .pv (.int k (a / 2 ^ b.toNat))) :: L)) S K) :
    RG P sf (.op ⟨some t, none, .bin .shr x y⟩ r) (env L) S K := q_bin hx hy (.inr rfl) ⟨hr, h⟩
theorem q_eql {x y : Opd} {k : IntKind} {a b : Int} (hx : ev (env L) x = .pv (.int k a)) (hy : ev (env L) y = .pv (.int k b)) (h : RG P sf r (env ((t, .pv (.bool (decide (a = b)))) :: L)) S K) :
    RG P sf (.op ⟨some t, none, .bin .eql x y⟩ r) (env L) S K := q_bin hx hy (.inl rfl) h
theorem q_neq {x y : Opd} {k : IntKind} {a b : Int} (hx : ev (env L) x = .pv (.int k a)) (hy : ev (env L) y = .pv (.int k b)) (h : RG P sf r (env ((t, .pv (.bool (!decide (a = b)))) :: L)) S K) :
    RG P sf (.op ⟨some t, none, .bin .neq x y⟩ r) (env L) S K := q_bin hx hy (.inl rfl) h
theorem q_lss {x y : Opd} {k : IntKind} {a b : Int} (hx : ev (env L) x = .pv (.int k a)) (hy : ev (env L) y = .pv (.int k b)) (h : RG P sf r (env ((t, .pv (.bool (decide (a < b)))) :: L)) S K) :
    RG P sf (.op ⟨some t, none, .bin .lss x y⟩ r) (env L) S K := q_bin hx hy (.inl rfl) h
theorem q_leq {x y : Opd} {k : IntKind} {a b : Int} (hx : ev (env L) x = .pv (.int k a)) (hy : ev (env L) y = .pv (.int k b)) (h : RG P sf r (env ((t, .pv (.bool (decide (a ≤ b)))) :: L)) S K) :
    RG P sf (.op ⟨some t, none, .bin .leq x y⟩ r) (env L) S K := q_bin hx hy (.inl rfl) h
theorem q_gtr {x y : Opd} {k : IntKind} {a b : Int} (hx : ev (env L) x = .pv (.int k a)) (hy : ev (env L) y = .pv (.int k b)) (h : RG P sf r (env ((t, .pv (.bool (decide (b < a)))) :: L)) S K) :
    RG P sf (.op ⟨some t, none, .bin .gtr x y⟩ r) (env L) S K := q_bin hx hy (.inl rfl) h
theorem q_geq {x y : Opd} {k : IntKind} {a b : Int} (hx : ev (env L) x = .pv (.int k a)) (hy : ev (env L) y = .pv (.int k b)) (h : RG P sf r (env ((t, .pv (.bool (decide (b ≤ a)))) :: L)) S K) :
    RG P sf (.op ⟨some t, none, .bin .geq x y⟩ r) (env L) S K := q_bin hx hy (.inl rfl) h
theorem q_not {x : Opd} {b : Bool} (hx : ev (env L) x = .pv (.bool b)) (h : RG P sf r (env ((t, .pv (.bool (!b))) :: L)) S K) : RG P sf (.op ⟨some t, none, .not x⟩ r) (env L) S K := by
  refine qF rfl ?_; simp only [stepF, hx]; exact h
theorem q_neg {x : Opd} {k : IntKind} {n : Int} (hx : ev (env L) x = .pv (.int k n)) (hr : inR k (-n)) (h : RG P sf r (env ((t, .pv (.int k (-n))) :: L)) S K) : RG P sf (.op ⟨some t, none, .neg x⟩ r) (env L) S K := by
  refine qF rfl ?_; simp only [stepF, hx]; exact ⟨hr, h⟩
theorem q_conv {x : Opd} {k k' : IntKind} {n : Int} (hx : ev (env L) x = .pv (.int k' n)) (hr : inR k n) (h : RG P sf r (env ((t, .pv (.int k n)) :: L)) S K) : RG P sf (.op ⟨some t, none, .conv k x⟩ r) (env L) S K := by
  refine qF rfl ?_; simp only [stepF, hx]; exact ⟨hr, h⟩
theorem q_len_s {x : Opd} {xs : List PV} (hx : ev (env L) x = .pv (.sl xs)) (h : RG P sf r (env ((t, .pv (.int .i64 xs.length)) :: L)) S K) : RG P sf (.op ⟨some t, none, .len x⟩ r) (env L) S K := by
  refine qF rfl ?_; simp only [stepF, hx]; exact h
theorem q_len_n {x : Opd} (hx : ev (env L) x = .nils) (h : RG P sf r (env ((t, .pv (.int .i64 0)) :: L)) S K) : RG P sf (.op ⟨some t, none, .len x⟩ r) (env L) S K := by
  refine qF rfl ?_; simp only [stepF, hx]; exact h
theorem q_len_o {x : Opd} {o n : Nat} (hx : ev (env L) x = .own o n) (h : RG P sf r (env ((t, .pv (.int .i64 n)) :: L)) S K) : RG P sf (.op ⟨some t, none, .len x⟩ r) (env L) S K := by
  refine qF rfl ?_; simp only [stepF, hx]; exact h
theorem q_nilc_c {x : Opd} {p : PV} (hx : ev (env L) x = .pv (.con p)) (h : RG P sf r (env ((t, .pv (.con p)) :: L)) S K) : RG P sf (.op ⟨some t, none, .nilc x⟩ r) (env L) S K := by
  refine qF rfl ?_; simp only [stepF, hx]; exact h
theorem q_nilc_r {x : Opd} {o i j : Nat} (hx : ev (env L) x = .ptr o i j) (h : RG P sf r (env ((t, .ptr o i j) :: L)) S K) : RG P sf (.op ⟨some t, none, .nilc x⟩ r) (env L) S K := by
  refine qF rfl ?_; simp only [stepF, hx]; exact h
theorem q_idx_s {sz : Nat} {x i : Opd} {xs : List PV} {k : IntKind} {n : Int} {p : PV} (hx : ev (env L) x = .pv (.sl xs)) (hi : ev (env L) i = .pv (.int k n)) (h0 : 0 ≤ n) (hp : xs[n.toNat]? = some p) (hsz : p.nc = sz)
    (h : RG P sf r (env ((t, .pv (.con p)) :: L)) S K) : RG P sf (.op ⟨some t, none, .idx sz x i⟩ r) (env L) S K := by
  refine qF rfl ?_
  obtain ⟨hl, rfl⟩ := List.getElem?_eq_some_iff.1 hp
  simp only [stepF, hx, hi]
  exact ⟨h0, hl, hsz, h⟩
theorem q_idx_o {sz : Nat} {x i : Opd} {o m : Nat} {k : IntKind} {n : Int} {ob : Ob} (hx : ev (env L) x = .own o m) (hi : ev (env L) i = .pv (.int k n)) (h0 : 0 ≤ n) (h1 : n < m) (hS : (fs sf S)[o]? = some (some ob)) (hsz : ob.sz = sz)
    (h : RG P sf r (env ((t, .ptr o n.toNat 0) :: L)) S K) : RG P sf (.op ⟨some t, none, .idx sz x i⟩ r) (env L) S K := by
  refine qF rfl ?_
  simp only [stepF, hx, hi]
  exact ⟨⟨h0, h1, ob, hS, hsz⟩, h⟩
theorem q_aidx_c {n sz : Nat} {x i : Opd} {cs : List PV} {k : IntKind} {m : Int} {p : PV} (hx : ev (env L) x = .pv (.con (.agg cs))) (hi : ev (env L) i = .pv (.int k m)) (hr : 0 ≤ m ∧ m < n ∧ sz = 1) (hp : cs[m.toNat]? = some p)
    (h : RG P sf r (env ((t, .pv (.con p)) :: L)) S K) : RG P sf (.op ⟨some t, none, .aidx n sz x i⟩ r) (env L) S K := by
  refine qF rfl ?_
  obtain ⟨hl, rfl⟩ := List.getElem?_eq_some_iff.1 hp
  simp only [stepF, hx, hi]
  exact ⟨hr, hl, h⟩
theorem q_aidx_r {n sz : Nat} {x i : Opd} {o a b : Nat} {k : IntKind} {m : Int} (hx : ev (env L) x = .ptr o a b) (hi : ev (env L) i = .pv (.int k m)) (hr : 0 ≤ m ∧ m < n)
    (h : RG P sf r (env ((t, .ptr o a (b + m.toNat * sz)) :: L)) S K) : RG P sf (.op ⟨some t, none, .aidx n sz x i⟩ r) (env L) S K := by
  refine qF rfl ?_
  simp only [stepF, hx, hi]
  exact ⟨hr, h⟩
theorem q_fld_r {off sz : Nat} {agg : Bool} {x : Opd} {o i j : Nat} (hx : ev (env L) x = .ptr o i j) (h : RG P sf r (env ((t, .ptr o i (j + off)) :: L)) S K) : RG P sf (.op ⟨some t, none, .fld off sz agg x⟩ r) (env L) S K := by
  refine qF rfl ?_; simp only [stepF, hx]; exact h
theorem q_fld_c {off sz : Nat} {x : Opd} {cs : List PV} {p : PV} (hx : ev (env L) x = .pv (.con (.agg cs))) (hp : cs[off]? = some p) (h : RG P sf r (env ((t, .pv (.con p)) :: L)) S K) : RG P sf (.op ⟨some t, none, .fld off sz false x⟩ r) (env L) S K := by
  refine qF rfl ?_
  obtain ⟨hl, rfl⟩ := List.getElem?_eq_some_iff.1 hp
  simp only [stepF, hx, fldP]
  exact ⟨hl, h⟩
theorem q_fld_ca {off sz : Nat} {x : Opd} {cs ds : List PV} (hx : ev (env L) x = .pv (.con (.agg cs))) (hl : off + sz ≤ cs.length) (hp : (cs.drop off).take sz = ds) (h : RG P sf r (env ((t, .pv (.con (.agg ds))) :: L)) S K) : RG P sf (.op ⟨some t, none, .fld off sz true x⟩ r) (env L) S K := by
  refine qF rfl ?_
  subst hp
  simp only [stepF, hx, fldP]
  exact ⟨hl, h⟩
theorem q_part {off sz : Nat} {x : Opd} {cs : List D} {d : D} (hx : ev (env L) x = .agg cs) (hp : cs[off]? = some d) (h1 : isOne d = true) (h : RG P sf r (env ((t, d) :: L)) S K) : RG P sf (.op ⟨some t, none, .part off sz false x⟩ r) (env L) S K := by
  refine qF rfl ?_
  obtain ⟨hl, rfl⟩ := List.getElem?_eq_some_iff.1 hp
  simp only [stepF, hx, fldD]
  exact ⟨hl, h1, h⟩
theorem q_part_p {off sz : Nat} {x : Opd} {cs : List PV} {p : PV} (hx : ev (env L) x = .pv (.agg cs)) (hp : cs[off]? = some p) (h1 : isOne (.pv p) = true) (h : RG P sf r (env ((t, .pv p) :: L)) S K) : RG P sf (.op ⟨some t, none, .part off sz false x⟩ r) (env L) S K := by
  refine qF rfl ?_
  obtain ⟨hl, rfl⟩ := List.getElem?_eq_some_iff.1 hp
  simp only [stepF, hx, fldD]
  exact ⟨by simpa using hl, by simpa using h1, by simpa using h⟩
theorem q_load_c {sz : Nat} {agg : Bool} {x : Opd} {p : PV} (hx : ev (env L) x = .pv (.con p)) (h1 : p.nc = sz) (h2 : isAggP p = agg) (h : RG P sf r (env ((t, .pv p) :: L)) S K) : RG P sf (.op ⟨some t, none, .load sz agg x⟩ r) (env L) S K := by
  refine qF rfl ?_
  simp only [stepF, hx]
  exact ⟨⟨h1, h2⟩, h⟩
theorem q_load_r {sz : Nat} {x : Opd} {o i j : Nat} {ob : Ob} {y d : D} {cs : List D} (hx : ev (env L) x = .ptr o i j) (hS : (fs sf S)[o]? = some (some ob)) (hy : ob.xs[i]? = some y) (hc : cellsD y = some cs) (hl : cs.length = ob.sz)
    (hd : cs[j]? = some d) (h1 : isOne d = true) (h : RG P sf r (env ((t, d) :: L)) S K) : RG P sf (.op ⟨some t, none, .load sz false x⟩ r) (env L) S K := by
  refine qF rfl ?_
  obtain ⟨hi, rfl⟩ := List.getElem?_eq_some_iff.1 hy
  obtain ⟨hj, rfl⟩ := List.getElem?_eq_some_iff.1 hd
  simp only [stepF, hx, hS, hc, fldD]
  exact ⟨hi, hl, hj, h1, h⟩
theorem q_load_ra {sz : Nat} {x : Opd} {o i j : Nat} {ob : Ob} {y : D} {cs ds : List D} (hx : ev (env L) x = .ptr o i j) (hS : (fs sf S)[o]? = some (some ob)) (hy : ob.xs[i]? = some y) (hc : cellsD y = some cs) (hl : cs.length = ob.sz)
    (hj : j + sz ≤ cs.length) (hd : (cs.drop j).take sz = ds) (h : RG P sf r (env ((t, .agg ds) :: L)) S K) : RG P sf (.op ⟨some t, none, .load sz true x⟩ r) (env L) S K := by
  refine qF rfl ?_
  obtain ⟨hi, rfl⟩ := List.getElem?_eq_some_iff.1 hy
  subst hd
  simp only [stepF, hx, hS, hc, fldD]
  exact ⟨hi, hl, hj, h⟩
theorem q_build {zero cs : List D} {parts : List (Nat × Nat × Opd)} (hx : fillD (env L) zero parts = some cs) (h : RG P sf r (env ((t, .agg cs) :: L)) S K) : RG P sf (.op ⟨some t, none, .build zero parts⟩ r) (env L) S K := by
  refine qF rfl ?_; simp only [stepF, hx]; exact h
theorem q_slc {sz : Nat} {x : Opd} {lo hi : Option Opd} {xs : List PV} {a b : Int} (hx : asSl (ev (env L) x) = some xs) (hl : optI (env L) lo 0 = some a) (hh : optI (env L) hi xs.length = some b)
    (hr : 0 ≤ a ∧ a ≤ b ∧ b ≤ xs.length) (hsz : ∀ x ∈ xs, x.nc = sz) (h : RG P sf r (env ((t, slR (ev (env L) x) ((xs.take b.toNat).drop a.toNat)) :: L)) S K) : RG P sf (.op ⟨some t, none, .slc sz x lo hi⟩ r) (env L) S K := by
  refine qF rfl ?_; simp only [stepF, hx, hl, hh]; exact ⟨⟨hr.1, hr.2.1, hr.2.2, hsz⟩, h⟩
theorem q_ext {x : Opd} {i : Nat} {ds : List D} {d : D} (hx : ev (env L) x = .tup ds) (hd : ds[i]? = some d) (h : RG P sf r (env ((t, d) :: L)) S K) : RG P sf (.op ⟨some t, none, .ext x i⟩ r) (env L) S K := by
  refine qF rfl ?_
  obtain ⟨hl, rfl⟩ := List.getElem?_eq_some_iff.1 hd
  simp only [stepF, hx]
  exact ⟨hl, h⟩
theorem q_mx {x y : Opd} {k k' : IntKind} {a b : Int} (hx : ev (env L) x = .pv (.int k a)) (hy : ev (env L) y = .pv (.int k' b)) (h : RG P sf r (env ((t, .pv (.int k (max a b))) :: L)) S K) : RG P sf (.op ⟨some t, none, .mx x y⟩ r) (env L) S K := by
  refine qF rfl ?_; simp only [stepF, hx, hy]; exact h
theorem q_mn {x y : Opd} {k k' : IntKind} {a b : Int} (hx : ev (env L) x = .pv (.int k a)) (hy : ev (env L) y = .pv (.int k' b)) (h : RG P sf r (env ((t, .pv (.int k (min a b))) :: L)) S K) : RG P sf (.op ⟨some t, none, .mn x y⟩ r) (env L) S K := by
  refine qF rfl ?_; simp only [stepF, hx, hy]; exact h
theorem q_mkf {f : FuncId} {caps : List Opd} {ds : List D} (hx : caps.map (ev (env L)) = ds) (hr : ds.all isR0 = true) (h : RG P sf r (env ((t, .clo f ds) :: L)) S K) : RG P sf (.op ⟨some t, none, .mkf f caps⟩ r) (env L) S K := by
  refine qF rfl ?_
  subst hx
  simp only [stepF]
  exact ⟨fun y hy => List.all_eq_true.1 hr _ (List.mem_map.2 ⟨y, hy, rfl⟩), h⟩
theorem qL {ty sz n : Nat} {zero : List D} {parts : List (Nat × Opd)} (h : stepF P (fs sf S) (.lit ty sz n zero parts) (env L) fun d => RG P sf r (env ((t, d) :: L)) S K) : RG P sf (.op ⟨some t, none, .lit ty sz n zero parts⟩ r) (env L) S K := by
  cases sf with
  | seq =>
    refine rX rfl ?_
    simp only [put_env, sOK, true_and]
    exact .inl h
  | mix cf SF =>
    refine rF rfl ?_
    simp only [put_env]
    exact h
theorem q_lit0 {ty sz : Nat} {zero : List D} {parts : List (Nat × Opd)} (h : RG P sf r (env ((t, .nils) :: L)) S K) : RG P sf (.op ⟨some t, none, .lit ty sz 0 zero parts⟩ r) (env L) S K := by
  refine qL ?_; simp only [stepF, if_true]; exact h
theorem q_lit {ty sz n : Nat} {zero : List D} {parts : List (Nat × Opd)} {xs : List PV} (hn : (n == 0) = false) (hx : litD (env L) sz n parts = some xs) (h1 : xs.all (fun x => x.nc == sz) = true) (h2 : zero.length = sz) (h : RG P sf r (env ((t, .pv (.sl xs)) :: L)) S K) : RG P sf (.op ⟨some t, none, .lit ty sz n zero parts⟩ r) (env L) S K := by
  refine qL ?_
  simp only [stepF, hx]
  rw [if_neg (by simpa using hn)]
  exact ⟨fun x hx => by have := List.all_eq_true.1 h1 x hx; simpa using this, h2, h⟩
/-- a literal that may be written -/
theorem q_lito {ty sz n : Nat} {zero : List D} {parts : List (Nat × Opd)} {xs : List PV} (hn : (n == 0) = false) (hx : litD (env L) sz n parts = some xs) (h1 : xs.all (fun x => x.nc == sz) = true) (h2 : zero.length = sz) (h : RG P .seq r (env ((t, .own S.length n) :: L)) (S ++ [some ⟨ty, sz, xs.map .pv⟩]) K) : RG P .seq (.op ⟨some t, none, .lit ty sz n zero parts⟩ r) (env L) S K := by
  refine rX rfl ?_
  simp only [put_env, sOK, true_and]
  exact .inr ⟨by simpa using hn, xs, hx, fun x hx => by have := List.all_eq_true.1 h1 x hx; simpa using this, h2, h⟩
theorem qX {op : SOp} (hx : isXm sf op = true) (h : stepS P op (env L) S fun d S' => sOK sf S' ∧ RG P sf r (env ((t, d) :: L)) S' K) : RG P sf (.op ⟨some t, none, op⟩ r) (env L) S K := by
  refine rX hx ?_
  simp only [put_env]
  exact h
theorem cOK_x {f : FuncId} {args : List Opd} (h : cOK sf = true) : isXm sf (.call f args) = true := by cases sf <;> exact h
theorem cOK_xv {x : Opd} {args : List Opd} (h : cOK sf = true) : isXm sf (.callv x args) = true := by cases sf <;> exact h
theorem q_call {f : FuncId} {args : List Opd} (hm : cOK sf = true) (h : CallS P f (args.map (ev (env L))) S fun d S' => sOK sf S' ∧ RG P sf r (env ((t, d) :: L)) S' K) : RG P sf (.op ⟨some t, none, .call f args⟩ r) (env L) S K := qX (cOK_x hm) h
/-- a pure function with one answer -/
theorem q_callp {f : FuncId} {args : List Opd} {ps : List PV} {x : PV} (hc : PCon P f ps (fun p => p = x)) (ha : toPVs (args.map (ev (env L))) = some ps) (hs : sOK sf S) (h : RG P sf r (env ((t, ofPV x) :: L)) S K) : RG P sf (.op ⟨some t, none, .call f args⟩ r) (env L) S K := by
  cases hm : cOK sf with
  | true => exact q_call hm (CallS.pure' hc ha ⟨hs, h⟩)
  | false =>
    have hx : isXm sf (.call f args) = false := by cases sf <;> exact hm
    refine rF hx ?_
    simp only [put_env, stepF, ha]
    exact ⟨x, hc, h⟩
theorem q_calll {f : FuncId} {args : List Opd} {ps : List PV} {x : PV} (hm : cOK sf = true) (hc : PCon P f ps (fun p => p = x)) (ha : toRs 5 S (args.map (ev (env L))) = some ps) (hfl : flatR x = true) (hs : sOK sf S) (h : RG P sf r (env ((t, ofPV x) :: L)) S K) : RG P sf (.op ⟨some t, none, .call f args⟩ r) (env L) S K :=
  q_call hm (CallS.lend hc ha (fun _ e => e ▸ hfl) fun _ e => e ▸ ⟨hs, h⟩)
theorem q_callv {x : Opd} {args : List Opd} {f : FuncId} {caps : List D} (hm : cOK sf = true) (hx : cloOf (ev (env L) x) = some (f, caps)) (hf : callable P f = true) (h : CallS P f (args.map (ev (env L)) ++ caps) S fun d S' => sOK sf S' ∧ RG P sf r (env ((t, d) :: L)) S' K) :
    RG P sf (.op ⟨some t, none, .callv x args⟩ r) (env L) S K := by
  refine qX (cOK_xv hm) ?_
  simp only [stepS, hx]
  exact ⟨hf, h⟩
theorem q_callvp {x : Opd} {args : List Opd} {f : FuncId} {caps : List D} {ps : List PV} {y : PV} (hm : cOK sf = true) (hx : cloOf (ev (env L) x) = some (f, caps)) (hf : callable P f = true) (hc : PCon P f ps (fun p => p = y)) (ha : toPVs (args.map (ev (env L)) ++ caps) = some ps) (hs : sOK sf S) (h : RG P sf r (env ((t, ofPV y) :: L)) S K) :
    RG P sf (.op ⟨some t, none, .callv x args⟩ r) (env L) S K := q_callv hm hx hf (CallS.pure' hc ha ⟨hs, h⟩)
theorem q_box {ty sz : Nat} {x : Opd} {d : D} {cs : List D} (hx : ev (env L) x = d) (hc : cellsD d = some cs) (hl : cs.length = sz) (hs : sOK sf (S ++ [some ⟨ty, sz, [d]⟩])) (h : RG P sf r (env ((t, .ptr S.length 0 0) :: L)) (S ++ [some ⟨ty, sz, [d]⟩]) K) :
    RG P sf (.op ⟨some t, none, .box ty sz x⟩ r) (env L) S K := by
  refine qX (by cases sf <;> rfl) ?_
  subst hx
  simp only [stepS, hc]
  exact ⟨hl, hs, h⟩
theorem q_alloc {ty sz : Nat} {z : D} (hs : sOK sf (S ++ [some ⟨ty, sz, [z]⟩])) (h : RG P sf r (env ((t, .ptr S.length 0 0) :: L)) (S ++ [some ⟨ty, sz, [z]⟩]) K) : RG P sf (.op ⟨some t, none, .alloc ty sz z⟩ r) (env L) S K := qX (by cases sf <;> rfl) ⟨hs, h⟩
theorem q_store {sz : Nat} {x y : Opd} {o i j : Nat} {ob : Ob} {e d z : D} {cs ds : List D} (hx : ev (env L) x = .ptr o i j) (hy : ev (env L) y = d) (hS : S[o]? = some (some ob)) (he : ob.xs[i]? = some e) (hc : cellsD e = some cs) (hd : cellsD d = some ds)
    (hr : cs.length = ob.sz ∧ ds.length = sz ∧ j + sz ≤ ob.sz ∧ ds.all isCell = true ∧ (isOne e = true → isOne d = true)) (hz : (if isOne e then d else .agg (setAt cs j ds)) = z) (hs : sOK sf (S.set o (some { ob with xs := ob.xs.set i z })))
    (h : RG P sf r (env L) (S.set o (some { ob with xs := ob.xs.set i z })) K) : RG P sf (.op ⟨none, none, .store sz x y⟩ r) (env L) S K := by
  refine rX (by cases sf <;> rfl) ?_
  subst hy hz
  obtain ⟨hi, rfl⟩ := List.getElem?_eq_some_iff.1 he
  simp only [stepS, hx, hS, hc, hd]
  exact ⟨hi, hr, hs, h⟩
theorem q_mks {ty sz bytes : Nat} {z : D} {n : Opd} {k : IntKind} {m : Int} (hx : ev (env L) n = .pv (.int k m)) (hr : 0 ≤ m ∧ (bytes : Int) * m ≤ 281474976710656 ∧ m ≤ 9223372036854775807) (hs : sOK sf (S ++ [some ⟨ty, sz, List.replicate m.toNat z⟩]))
    (h : RG P sf r (env ((t, .own S.length m.toNat) :: L)) (S ++ [some ⟨ty, sz, List.replicate m.toNat z⟩]) K) : RG P sf (.op ⟨some t, none, .mks ty sz bytes z n⟩ r) (env L) S K := by
  refine qX (by cases sf <;> rfl) ?_
  simp only [stepS, hx]
  exact ⟨hr, hs, h⟩
theorem q_app_n {ty sz bytes : Nat} {x y : Opd} {ys : List D} (hx : ev (env L) x = .nils) (hy : elemsOf S sz (ev (env L) y) = some ys) (hc : ys.all cellOK = true) (h0 : ys = [] → sOK sf S ∧ RG P sf r (env ((t, .nils) :: L)) S K)
    (h1 : ys ≠ [] → (ys.length * bytes ≤ 140737488355328 ∧ ys.length ≤ maxLen) ∧ sOK sf (S ++ [some ⟨ty, sz, ys⟩]) ∧ RG P sf r (env ((t, .own S.length ys.length) :: L)) (S ++ [some ⟨ty, sz, ys⟩]) K) : RG P sf (.op ⟨some t, none, .app ty sz bytes x y⟩ r) (env L) S K := by
  refine qX (by cases sf <;> rfl) ?_
  simp only [stepS, hx, hy]
  exact ⟨hc, .inr (.inr ⟨h0, fun hne => ⟨(h1 hne).1.1, (h1 hne).1.2, (h1 hne).2⟩⟩)⟩
theorem q_app_o {ty sz bytes : Nat} {x y : Opd} {ys : List D} {o n : Nat} {ob : Ob} (hx : ev (env L) x = .own o n) (hy : elemsOf S sz (ev (env L) y) = some ys) (hc : ys.all cellOK = true) (h0 : ys = [] → sOK sf S ∧ RG P sf r (env ((t, .own o n) :: L)) S K)
    (hS : S[o]? = some (some ob)) (ht : ob.ty = ty) (hz : ob.sz = sz) (hn : ob.xs.length = n)
    (h1 : ys ≠ [] → ((n + ys.length) * bytes ≤ 140737488355328 ∧ n + ys.length ≤ maxLen) ∧ sOK sf (S.set o none ++ [some { ob with xs := ob.xs ++ ys }]) ∧ RG P sf r (env ((t, .own S.length (n + ys.length)) :: L)) (S.set o none ++ [some { ob with xs := ob.xs ++ ys }]) K) :
    RG P sf (.op ⟨some t, none, .app ty sz bytes x y⟩ r) (env L) S K := by
  refine qX (by cases sf <;> rfl) ?_
  simp only [stepS, hx, hy]
  exact ⟨hc, .inr (.inr ⟨h0, fun hne => ⟨ob, hS, ht, hz, hn, (h1 hne).1.1, (h1 hne).1.2, (h1 hne).2⟩⟩)⟩
/-! guards -/
theorem q_last {o : SO} (h : RG P .seq (.op o .nil) (env L) S K) : RG P sf (.last o) (env L) S K := RG_last h
theorem q_or {a b : RT} (h1 : RG P sf a (env L) S K) (h2 : RG P sf b (env L) S K) : RG P sf (.or a b) (env L) S K := ⟨h1, h2⟩
theorem q_t {op : SOp} {d : Option Nat} {g : Nat} {want : Bool} (hg : env L g = .pv (.bool want)) (h : RG P sf (.op ⟨d, none, op⟩ r) (env L) S K) : RG P sf (.op ⟨d, some (g, want), op⟩ r) (env L) S K := rg_t hg h
theorem q_f {op : SOp} {g : Nat} {want : Bool} (hg : env L g = .pv (.bool (!want))) (h : RG P sf r (env ((t, .undef) :: L)) S K) : RG P sf (.op ⟨some t, some (g, want), op⟩ r) (env L) S K := rg_f hg rfl (by rw [put_env]; exact h)
theorem q_u {op : SOp} {g : Nat} {want : Bool} (hg : env L g = .undef) (h : RG P sf r (env ((t, .undef) :: L)) S K) : RG P sf (.op ⟨some t, some (g, want), op⟩ r) (env L) S K := rg_u hg (by rw [put_env]; exact h)
theorem q_b {op : SOp} {d : Option Nat} {g : Nat} {want b : Bool} (hg : env L g = .pv (.bool b)) (h1 : b = want → RG P sf (.op ⟨d, some (g, want), op⟩ r) (env ((g, .pv (.bool want)) :: L)) S K)
    (h2 : b = !want → RG P sf (.op ⟨d, some (g, want), op⟩ r) (env ((g, .pv (.bool (!want))) :: L)) S K) : RG P sf (.op ⟨d, some (g, want), op⟩ r) (env L) S K := rg_b hg (fun e => by rw [put_env]; exact h1 e) fun e => by rw [put_env]; exact h2 e
end q

def keepOK (E : Env) : List (Nat × D) → Prop
  | [] => True
  | (t, d) :: L => E t = d ∧ keepOK E L
theorem Bd.keepL {k0 : Nat} {E : Env} {S : Store} {R : Env → Store → Prop} (L : List (Nat × D)) (h1 : keepOK E L) (h : R (env L) S) : Bd k0 E S R := by
  refine Bd.keep L ?_ h
  clear h
  induction L with
  | nil => intro p hp; cases hp
  | cons q L ih =>
    obtain ⟨t, d⟩ := q
    intro p hp
    rcases List.mem_cons.1 hp with rfl | hp
    · exact h1.1
    · exact ih h1.2 p hp
theorem inR64 {n : Int} (h : -9223372036854775808 ≤ n ∧ n ≤ 9223372036854775807) : inR .i64 n := h
theorem inR64u {n : Int} (h : 0 ≤ n ∧ n ≤ 18446744073709551615) : inR .u64 n := h

theorem EndS.mono {k0 : Nat} {ρ : Rho} {I : Nat → Prop} {w : World} {N : Nat} {Q Q' : Env → Store → Prop} {a' : Act} {w' : World} (h : EndS k0 ρ I w N Q a' w') (hq : ∀ E S, Q E S → Q' E S) : EndS k0 ρ I w N Q' a' w' :=
  let ⟨E2, S2, ρ2, I2, q1, q2⟩ := h
  ⟨E2, S2, ρ2, I2, hq _ _ q1, q2⟩
theorem VS_mono {P : Program} {N k0 : Nat} {sc : SCode} {K K' : KK} {E : Env} {S : Store} (h : VS P N k0 sc K E S) (hk : ∀ x E S, K x E S → K' x E S) : VS P N k0 sc K' E S :=
  fun H c hc ρ I w a hs he ha hd hk0 => wp_mono (h H c hc ρ I w a hs he ha hd hk0) fun x _ _ hx => hx.mono (hk x)
/-- two ways meet -/
theorem VS_join {P : Program} {N k0 : Nat} {a b : SCode} {K : KK} {E : Env} {S : Store} (R : Env → Store → Prop) (h1 : VS P N k0 a (KThen (fun E S => Bd k0 E S R) K) E S) (h2 : ∀ E S, R E S → VS P N k0 b K E S) : VS P N k0 (.seq a b) K E S := by
  refine VS_seq (VS_mono h1 fun x E S hx => ?_)
  cases x with
  | normal =>
    refine VS_bd fun ρ I w ac hs he hk => ?_
    obtain ⟨E', S', ρ', I', g1, g2⟩ := hx ρ I w ac hs he hk
    exact ⟨E', S', ρ', I', h2 E' S' g1, g2⟩
  | _ => exact hx

/-- an element -/
def nth {α : Type} [Inhabited α] (xs : List α) (i : Nat) : α := xs.getD i default
theorem nth_eq {α : Type} [Inhabited α] {xs : List α} {i : Nat} (h : i < xs.length) : nth xs i = xs[i] := by
  unfold nth; rw [List.getD_eq_getElem?_getD, List.getElem?_eq_getElem h]; rfl
theorem q_idx_m {P : Program} {sf : SM} {r : RT} {L : List (Nat × D)} {S : Store} {K : Env → Store → Prop} {t : Nat} {α : Type} [Inhabited α] {sz : Nat} {x i : Opd} {f : α → PV} {xs : List α} {k : IntKind} {n : Int}
    (hx : ev (env L) x = .pv (.sl (xs.map f))) (hi : ev (env L) i = .pv (.int k n)) (h0 : 0 ≤ n) (h1 : n < xs.length) (hsz : ∀ a, (f a).nc = sz)
    (h : RG P sf r (env ((t, .pv (.con (f (nth xs n.toNat)))) :: L)) S K) : RG P sf (.op ⟨some t, none, .idx sz x i⟩ r) (env L) S K := by
  have hl : n.toNat < xs.length := by omega
  refine q_idx_s (p := f (nth xs n.toNat)) hx hi h0 ?_ (hsz _) h
  rw [List.getElem?_map, List.getElem?_eq_getElem hl, nth_eq hl]
  rfl
theorem Sub.nil {S : Store} : Sub [] S := fun o ob h => by simp at h
abbrev i64 (n : Int) : PV := .int .i64 n
abbrev ints (xs : List Int) : PV := .sl (xs.map (.int .i64))

theorem Bd.freezeL {k0 : Nat} {E : Env} {S S' : Store} {R : Env → Store → Prop} (o : Nat) {ob : Ob} (ps : List PV) (L : List (Nat × D)) (hS : S[o]? = some (some ob)) (hps : toPVs ob.xs = some ps)
    (hL : keepOK (fun t => mpD (frz o ps) (E t)) L) (hS' : frzS o ps S = S') (h : R (env L) S') : Bd k0 E S R := by
  refine Bd.then (R' := fun E' S'' => E' = (fun t => mpD (frz o ps) (E t)) ∧ S'' = S') (Bd.freeze o hS hps ⟨rfl, hS'⟩) fun E' S'' hr => ?_
  obtain ⟨rfl, rfl⟩ := hr
  exact Bd.keepL L hL h
theorem q_len_m {P : Program} {sf : SM} {r : RT} {L : List (Nat × D)} {S : Store} {K : Env → Store → Prop} {t : Nat} {α : Type} {x : Opd} {f : α → PV} {xs : List α}
    (hx : ev (env L) x = .pv (.sl (xs.map f))) (h : RG P sf r (env ((t, .pv (.int .i64 xs.length)) :: L)) S K) : RG P sf (.op ⟨some t, none, .len x⟩ r) (env L) S K := q_len_s hx (by simpa using h)

theorem VS_st {P : Program} {N k0 : Nat} {sc : SCode} {K : KK} {E : Env} {S : Store} (S' : Store) (h : S = S') (hv : VS P N k0 sc K E S') : VS P N k0 sc K E S := h ▸ hv

theorem Sub.refl (S : Store) : Sub S S := Sub.of_eq fun _ _ h => h
end Go.V
