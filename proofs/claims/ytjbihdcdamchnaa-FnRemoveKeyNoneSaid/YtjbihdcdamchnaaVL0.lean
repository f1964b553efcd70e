/- A part of the proofs about laws of the page tree (see the text that bears the law): a small language of steps, its rules, and what the functions of the program return. -/
import Derived.Test.YtjbihdcdamchnaaVKA
set_option linter.all false
set_option linter.unusedVariables false
set_option linter.unusedSimpArgs false
namespace Go.V

/-- CONTRACT of a function, own objects and all. -/
def CallS (P : Program) (f : FuncId) (ds : List D) (S : Store) (c : D → Store → Prop) : Prop :=
  ∀ (ρ : Rho) (I : Nat → Prop) (w : World) (vs : List Value), St ρ I w S → RDs ρ I w vs ds →
    Calls P f vs.toArray w fun e w' => ∃ u d ρ' I' S', e = .returned u ∧ c d S' ∧ St ρ' I' w' S' ∧ RD ρ' I' w' u d ∧ Ext S.length ρ I w ρ' I' w'

theorem CallS.mono {P : Program} {f : FuncId} {ds : List D} {S : Store} {c c' : D → Store → Prop} (h : CallS P f ds S c) (hc : ∀ d S', c d S' → c' d S') : CallS P f ds S c' :=
  fun ρ I w vs hs hv => (h ρ I w vs hs hv).mono fun _ _ ⟨u, d, ρ', I', S', h1, h2, h3⟩ => ⟨u, d, ρ', I', S', h1, hc d S' h2, h3⟩

/-- a pure function -/
theorem CallS.pure {P : Program} {f : FuncId} {ds : List D} {ps : List PV} {S : Store} {c : D → Store → Prop} {Post : PV → Prop} (h : PCon P f ps Post) (hp : toPVs ds = some ps)
    (hc : ∀ p, Post p → c (ofPV p) S) : CallS P f ds S c := fun ρ I w vs hs hv =>
  (h I w vs hs.old (toPVs_sound hp hv)).mono fun _ _ ⟨u, p, I', h1, h2, h3, h4⟩ => ⟨u, ofPV p, ρ, I', S, h1, hc p h2, hs.grow h3, rd_rho h4, h3.ext' hs⟩

theorem CallS.pure' {P : Program} {f : FuncId} {ds : List D} {ps : List PV} {S : Store} {c : D → Store → Prop} {r : PV} (h : PCon P f ps (fun p => p = r)) (hp : toPVs ds = some ps)
    (hc : c (ofPV r) S) : CallS P f ds S c := CallS.pure h hp fun p e => by subst e; exact hc

section ops
variable {P : Program} {S : Store} {o : Oper} {E : Env} {c : D → Store → Prop}

theorem okX_call {f : FuncId} {args : Array Operand} {args' : List Opd} {ats : Array TypeId} (hop : o.op = .call { callee := .value (.func f), args := args, argTypes := ats })
    (hx : dOpds args.toList = some args') (hf : callable P f = true) (h : CallS P f (args'.map (ev E)) S c) : OpX P o E S c := fun ρ I w ac next Q hst he hn => by
  have g := dOpds_sound (E := E) (ρ := ρ) (I := I) (w := w) (a := ac) hx (fun t ht => he t (slots_mem (by simp [hop, Op.operands, Call.operands]; simpa using ht)))
  refine wp_enter (f := f) (args := (args.toList.map ac.eval).toArray) ?_ ?_
  · have : args.map ac.eval = (args.toList.map ac.eval).toArray := by rw [← Array.toList_map]
    rw [← this]
    have hev : ac.eval (.func f) = .func (.func f) #[] #[] := rfl
    simp [execOp, hop, resolve, hev, Deferred.ofValue, invoke, run_callFunc hf]
  · exact (h ρ I w _ hst g).mono fun e w' ⟨u, d, ρ', I', S', h1, h2, h3, h4, h5⟩ => ⟨u, h1, hn u d ρ' I' w' S' h2 h3 h4 h5⟩

/-- what a closure holds -/
def cloOf : D → Option (FuncId × List D)
  | .clo f caps => if caps.all smp then some (f, caps) else none
  | .pv (.clo f caps) => some (f, caps.map .pv)
  | _ => none

theorem RDs_append {ρ : Rho} {I : Nat → Prop} {w : World} : ∀ {vs us : List Value} {ds es : List D}, RDs ρ I w vs ds → RDs ρ I w us es → RDs ρ I w (vs ++ us) (ds ++ es)
  | [], _, [], _, _, h => h
  | _ :: _, _, _ :: _, _, h, h' => ⟨h.1, RDs_append h.2 h'⟩
  | [], _, _ :: _, _, h, _ => h.elim
  | _ :: _, _, [], _, h, _ => h.elim
theorem RDs_of {ρ : Rho} {I : Nat → Prop} {w : World} : ∀ {vs : List Value} {ds : List D}, vs.length = ds.length → (∀ i (h : i < vs.length) (h' : i < ds.length), RD ρ I w vs[i] ds[i]) → RDs ρ I w vs ds
  | [], [], _, _ => trivial
  | v :: vs, p :: ps, hl, h => ⟨h 0 (by simp) (by simp), RDs_of (by simpa using hl) fun i hi hi' => by have := h (i + 1) (by simpa using hi) (by simpa using hi'); simpa using this⟩

theorem cloOf_sound {ρ : Rho} {I : Nat → Prop} {w : World} {v : Value} {d : D} {f : FuncId} {caps : List D} (h : cloOf d = some (f, caps)) (hr : RD ρ I w v d) :
    ∃ vs : List Value, v = .func (.func f) #[] vs.toArray ∧ RDs ρ I w vs caps := by
  cases d with
  | clo f' caps' =>
    simp only [cloOf] at h
    split at h <;> simp at h
    rename_i hall
    obtain ⟨rfl, rfl⟩ := h
    have hr' : R1 ρ I w v (.clo f' caps') := hr
    obtain ⟨vs, h1, h2, h3⟩ := hr'
    exact ⟨vs, h1, RDs_of h2 fun i hi hi' => smp_rd (List.all_eq_true.1 hall _ (List.getElem_mem hi')) (h3 i hi hi')⟩
  | pv p =>
    cases p with
    | clo f' caps' =>
      simp [cloOf] at h
      obtain ⟨rfl, rfl⟩ := h
      have hr' : RC I w [v] (.clo f' caps') := hr
      cases hr' with
      | clo _ vs _ h1 h2 h3 =>
        exact ⟨vs, rfl, RDs_of (by simpa using h1) fun i hi hi' => by
          simp only [List.getElem_map]
          exact (rd_pv (h3 _ (List.getElem_mem _))).2 (h2 i hi (by simpa using hi'))⟩
    | _ => simp [cloOf] at h
  | _ => simp [cloOf] at h

theorem okX_callv {x : Operand} {x' : Opd} {args : Array Operand} {args' : List Opd} {ats : Array TypeId} {f : FuncId} {caps : List D} (hop : o.op = .call { callee := .value x, args := args, argTypes := ats })
    (hx' : dOpd x = some x') (hx : dOpds args.toList = some args') (hcl : cloOf (ev E x') = some (f, caps)) (hf : callable P f = true) (h : CallS P f (args'.map (ev E) ++ caps) S c) : OpX P o E S c := fun ρ I w ac next Q hst he hn => by
  have g0 := dOpd_sound hx' fun t ht => he t (slots_mem (by simp [hop, Op.operands, Call.operands, ht]))
  have g := dOpds_sound (E := E) (ρ := ρ) (I := I) (w := w) (a := ac) hx (fun t ht => he t (slots_mem (by simp [hop, Op.operands, Call.operands]; exact Or.inr (by simpa using ht))))
  obtain ⟨vs, hv, hcaps⟩ := cloOf_sound hcl g0
  refine wp_enter (f := f) (args := (args.toList.map ac.eval ++ vs).toArray) ?_ ?_
  · simp [execOp, hop, resolve, hv, Deferred.ofValue, invoke, run_callFunc hf]
  · exact (h ρ I w _ hst (RDs_append g hcaps)).mono fun e w' ⟨u, d, ρ', I', S', h1, h2, h3, h4, h5⟩ => ⟨u, h1, hn u d ρ' I' w' S' h2 h3 h4 h5⟩
end ops

/-- ONE OPERATION, own objects and all. -/
def stepS (P : Program) (op : SOp) (E : Env) (S : Store) (c : D → Store → Prop) : Prop :=
  match op with
  | .box ty sz x => match cellsD (ev E x) with
    | some cs => cs.length = sz ∧ c (.ptr S.length 0 0) (S ++ [some ⟨ty, sz, [ev E x]⟩])
    | none => False
  | .alloc ty sz z => c (.ptr S.length 0 0) (S ++ [some ⟨ty, sz, [z]⟩])
  | .store sz x y => match ev E x with
    | .ptr o i j => match S[o]? with
      | some (some ob) => ∃ h : i < ob.xs.length, match cellsD ob.xs[i], cellsD (ev E y) with
        | some cs, some ds => (cs.length = ob.sz ∧ ds.length = sz ∧ j + sz ≤ ob.sz ∧ ds.all isCell = true ∧ (isOne ob.xs[i] = true → isOne (ev E y) = true)) ∧
            c .undef (S.set o (some { ob with xs := ob.xs.set i (if isOne ob.xs[i] then ev E y else .agg (setAt cs j ds)) }))
        | _, _ => False
      | _ => False
    | _ => False
  | .mks ty sz bytes z n => match ev E n with
    | .pv (.int _ m) => (0 ≤ m ∧ (bytes : Int) * m ≤ 281474976710656 ∧ m ≤ 9223372036854775807) ∧ c (.own S.length m.toNat) (S ++ [some ⟨ty, sz, List.replicate m.toNat z⟩])
    | _ => False
  | .app ty sz bytes x y => match elemsOf S sz (ev E y) with
    | some ys => ys.all cellOK = true ∧ ((ev E x = .nils ∧ (ys.length * bytes ≤ 140737488355328 ∧ ys.length ≤ maxLen) ∧ c (ownD S.length ys) (S ++ [obD ty sz ys])) ∨
      (∃ oo xs, ev E x = ownD oo xs ∧ S[oo]? = some (obD ty sz xs) ∧ ((xs.length + ys.length) * bytes ≤ 140737488355328 ∧ xs.length + ys.length ≤ maxLen) ∧ c (ownD S.length (xs ++ ys)) (S.set oo none ++ [obD ty sz (xs ++ ys)])) ∨ match ev E x with
      | .nils => (ys = [] → c .nils S) ∧ (ys ≠ [] → ys.length * bytes ≤ 140737488355328 ∧ ys.length ≤ maxLen ∧ c (.own S.length ys.length) (S ++ [some ⟨ty, sz, ys⟩]))
      | .own oo n => (ys = [] → c (.own oo n) S) ∧ (ys ≠ [] → ∃ ob, S[oo]? = some (some ob) ∧ ob.ty = ty ∧ ob.sz = sz ∧ ob.xs.length = n ∧ (n + ys.length) * bytes ≤ 140737488355328 ∧ n + ys.length ≤ maxLen ∧
          c (.own S.length (n + ys.length)) (S.set oo none ++ [some { ob with xs := ob.xs ++ ys }]))
      | .sub oo off n cap => ∃ ob, S[oo]? = some (some ob) ∧ ob.sz = sz ∧ off + n ≤ ob.xs.length ∧ (ys = [] → c (.sub oo off n cap) S) ∧
          (ys ≠ [] → n + ys.length ≤ cap → c (.sub oo off (n + ys.length) cap) (S.set oo (some { ob with xs := splice ob.xs (off + n) ys }))) ∧
          (ys ≠ [] → cap < n + ys.length → (n + ys.length) * bytes ≤ 140737488355328 ∧ n + ys.length ≤ maxLen ∧ c (.own S.length (n + ys.length)) (S ++ [some ⟨ty, sz, (ob.xs.drop off).take n ++ ys⟩]))
      | _ => False)
    | none => False
  | .appz ty sz bytes z x n => match ev E n with
    | .pv (.int _ m) => 0 < m ∧ match ev E x with
      | .nils => m.toNat * bytes ≤ 140737488355328 ∧ m.toNat ≤ maxLen ∧ c (.own S.length m.toNat) (S ++ [some ⟨ty, sz, List.replicate m.toNat z⟩])
      | .sub oo off n cap => ∃ ob, S[oo]? = some (some ob) ∧ ob.sz = sz ∧ off + n ≤ ob.xs.length ∧ cap < n + m.toNat ∧ (n + m.toNat) * bytes ≤ 140737488355328 ∧ n + m.toNat ≤ maxLen ∧
          c (.own S.length (n + m.toNat)) (S ++ [some ⟨ty, sz, (ob.xs.drop off).take n ++ List.replicate m.toNat z⟩])
      | _ => False
    | _ => False
  | .copy sz x y => match elemsOf S sz (ev E y) with
    | some ys => match ev E x with
      | .nils => c .any S
      | .own oo n => (ys.take n).all cellOK = true ∧ ∃ ob, S[oo]? = some (some ob) ∧ ob.sz = sz ∧ n ≤ ob.xs.length ∧ c .any (S.set oo (some { ob with xs := splice ob.xs 0 (ys.take n) }))
      | .sub oo off n _ => (ys.take n).all cellOK = true ∧ ∃ ob, S[oo]? = some (some ob) ∧ ob.sz = sz ∧ off + n ≤ ob.xs.length ∧ c .any (S.set oo (some { ob with xs := splice ob.xs off (ys.take n) }))
      | _ => False
    | none => False
  | .clear sz z x => match ev E x with
    | .nils => c .any S
    | .sub oo off n _ => ∃ ob, S[oo]? = some (some ob) ∧ ob.sz = sz ∧ off + n ≤ ob.xs.length ∧ (n = 0 → c .any S) ∧ (n ≠ 0 → c .any (S.set oo (some { ob with xs := splice ob.xs off (List.replicate n z) })))
    | _ => False
  | .isnil ng x => match ev E x with
    | .nils => c (.pv (.bool true)) S ∧ c (.pv (.bool false)) S
    | .pv (.sl xs) => c (.pv (.bool ng)) S ∧ (xs = [] → c (.pv (.bool !ng)) S)
    | .own _ _ => c (.pv (.bool ng)) S
    | .sub _ _ _ _ => c (.pv (.bool ng)) S
    | _ => False
  | .ovl f x y => OvlOK P f ∧ match ev E x, ev E y with
    | .pv (.sl _), .nils => c (.pv (.bool false)) S
    | .pv (.sl xs), .sub oo _ _ _ => (∃ ob, S[oo]? = some (some ob) ∧ 0 < ob.sz) ∧ (xs.all fun x => decide (0 < x.nc)) = true ∧ c (.pv (.bool false)) S
    | _, _ => False
  | .dead => False
  | .lit ty sz n zero parts => stepF P S (.lit ty sz n zero parts) E (fun d => c d S) ∨
      (n ≠ 0 ∧ ∃ xs, litD E sz n parts = some xs ∧ (∀ x ∈ xs, x.nc = sz) ∧ zero.length = sz ∧ c (.own S.length n) (S ++ [some ⟨ty, sz, xs.map .pv⟩]))
  | .call f args => CallS P f (args.map (ev E)) S c
  | .callv x args => match cloOf (ev E x) with
    | some (f, caps) => callable P f = true ∧ CallS P f (args.map (ev E) ++ caps) S c
    | none => False
  | op => stepF P S op E fun d => c d S

/-- an operation that may write -/
def isX : SOp → Bool
  | .box .. | .alloc .. | .store .. | .mks .. | .app .. | .call .. | .callv .. | .appz .. | .copy .. | .clear .. | .isnil .. | .ovl .. | .dead => true
  | _ => false
def isEff : SOp → Bool
  | .box .. | .alloc .. | .store .. | .mks .. | .app .. | .appz .. | .copy .. | .clear .. | .isnil .. | .ovl .. | .dead => true
  | _ => false

def slimEff (P : Program) (o : Oper) : Option SOp :=
  match o.op with
  | .box T x => match szT P T, dOpd x with
    | some sz, some x => some (.box T sz x)
    | _, _ => none
  | .alloc T => match zeroT P T, aggT P T with
    | some z, some agg => if (agg = false → z.length = 1) then some (.alloc T z.length (zeroEl agg z)) else none
    | _, _ => none
  | .store T x y => match szT P T, dOpd x, dOpd y with
    | some sz, some x, some y => some (.store sz x y)
    | _, _, _ => none
  | .makeSlice T (.tmp l) (.tmp c) => if l = c then match P.underlying T with
      | some (.slice e) => match P.info? e, zeroT P e, aggT P e with
        | some i, some z, some agg => if z.length = i.size ∧ (agg = false → z.length = 1) then some (.mks e i.size i.bytes (zeroEl agg z) (.t l)) else none
        | _, _, _ => none
      | _ => none
    else none
  | .call { callee := .builtin .append, args, argTypes } => match args.toList, argTypes.toList with
    | [x, y], [T, T'] => if T = T' then match P.underlying T, dOpd x, dOpd y with
        | some (.slice e), some x, some y => match P.info? e, zeroT P e with
          | some i, some z => if z.length = i.size ∧ 0 < i.size then some (.app e i.size i.bytes x y) else none
          | _, _ => none
        | _, _, _ => none
      else match P.underlying T, P.underlying T', dOpd x, dOpd y with
        | some (.slice e), some (.int _), some x, some y => match P.info? e, zeroT P e, aggT P e with
          | some i, some z, some agg => if z.length = i.size ∧ 0 < i.size ∧ (agg = false → z.length = 1) then some (.appz e i.size i.bytes (zeroEl agg z) x y) else none
          | _, _, _ => none
        | _, _, _, _ => none
    | _, _ => none
  | .call { callee := .builtin .copy, args, argTypes } => match args.toList, argTypes.toList with
    | [x, y], [T, _] => match P.underlying T, dOpd x, dOpd y with
        | some (.slice e), some x, some y => match P.info? e with
          | some i => some (.copy i.size x y)
          | none => none
        | _, _, _ => none
    | _, _ => none
  | .call { callee := .builtin .clear, args, argTypes } => match args.toList, argTypes.toList with
    | [x], [T] => match P.underlying T, dOpd x with
        | some (.slice e), some x => match P.info? e, zeroT P e, aggT P e with
          | some i, some z, some agg => if z.length = i.size ∧ (agg = false → z.length = 1) ∧ cellOK (zeroEl agg z) = true then some (.clear i.size (zeroEl agg z) x) else none
          | _, _, _ => none
        | _, _ => none
    | _, _ => none
  | .binOp op T x y _ => match (if op = .eql ∨ op = .neq then P.underlying T else none) with
    | some (.slice _) => match y, dOpd x with
      | .const (.slice none _ _), some x => some (.isnil (op == .neq) x)
      | _, _ => none
    | _ => slimFree P o
  | .call { callee := .value (.func f), args, argTypes } => if callable P f then slimFree P o else match args.toList with
    | [x, y] => match dOpd x, dOpd y with
      | some x, some y => some (.ovl f x y)
      | _, _ => none
    | _ => none
  | .panic _ => some .dead
  | .makeInterface _ _ => some .dead
  | _ => slimFree P o

def isLit : SOp → Bool
  | .lit .. => true
  | _ => false
theorem stepS_free {P : Program} {op : SOp} {E : Env} {S : Store} {c : D → Store → Prop} (h : isX op = false) (hl : isLit op = false) : stepS P op E S c = stepF P S op E fun d => c d S := by
  cases op <;> simp [isX, isLit] at h hl <;> rfl
theorem slimFree_lit {P : Program} {o : Oper} {ty sz n : Nat} {zero : List D} {parts' : List (Nat × Opd)} (h : slimFree P o = some (.lit ty sz n zero parts')) :
    ∃ T parts, o.op = .buildSlice T n parts ∧ P.underlying T = some (.slice ty) ∧ szT P ty = some sz ∧ zeroT P ty = some zero ∧ litParts 0 parts.toList = some parts' ∧ parts.size = n ∧ sz ≠ 0 ∧ n * sz ≤ 2 ^ 24 := by
  unfold slimFree at h
  split at h
  case h_14 T n' parts hop =>
    split at h
    · rename_i e h1
      split at h
      · rename_i sz' zero' ps h2 h3 h4
        split at h
        · rename_i h5
          simp at h
          obtain ⟨rfl, rfl, rfl, rfl, rfl⟩ := h
          exact ⟨T, parts, hop, h1, h2, h3, h4, h5⟩
        · simp at h
      · simp at h
    · simp at h
  all_goals
    repeat' split at h
    all_goals first
      | (simp at h; done)
      | (obtain ⟨_, _, h2⟩ := Option.map_eq_some_iff.1 h; simp at h2; done)

theorem slimFree_notEff {P : Program} {o : Oper} {so : SOp} (h : slimFree P o = some so) : isEff so = false := by
  unfold slimFree at h
  repeat' split at h
  all_goals first
    | (simp at h; done)
    | (simp at h; subst h; rfl)
    | (obtain ⟨_, _, rfl⟩ := Option.map_eq_some_iff.1 h; rfl)

theorem slimFree_call {P : Program} {o : Oper} {f : FuncId} {args' : List Opd} (h : slimFree P o = some (.call f args')) :
    ∃ args ats, o.op = .call { callee := .value (.func f), args := args, argTypes := ats } ∧ dOpds args.toList = some args' ∧ callable P f = true := by
  unfold slimFree at h
  split at h
  case h_19 f' args ats hop =>
    split at h
    · rename_i hf
      obtain ⟨as, h1, h2⟩ := Option.map_eq_some_iff.1 h
      simp at h2
      obtain ⟨rfl, rfl⟩ := h2
      exact ⟨args, ats, hop, h1, hf⟩
    · simp at h
  all_goals
    repeat' split at h
    all_goals first
      | (simp at h; done)
      | (obtain ⟨_, _, h2⟩ := Option.map_eq_some_iff.1 h; simp at h2; done)

theorem slimFree_callv {P : Program} {o : Oper} {x' : Opd} {args' : List Opd} (h : slimFree P o = some (.callv x' args')) :
    ∃ x args ats, o.op = .call { callee := .value x, args := args, argTypes := ats } ∧ dOpd x = some x' ∧ dOpds args.toList = some args' := by
  unfold slimFree at h
  split at h
  case h_20 x args ats _ hop =>
    split at h
    · rename_i h1 h2
      simp at h
      obtain ⟨rfl, rfl⟩ := h
      exact ⟨x, args, ats, hop, h1, h2⟩
    · simp at h
  all_goals
    repeat' split at h
    all_goals first
      | (simp at h; done)
      | (obtain ⟨_, _, h2⟩ := Option.map_eq_some_iff.1 h; simp at h2; done)

theorem slimEff_sound {P : Program} {o : Oper} {E : Env} {S : Store} {c : D → Store → Prop} {so : SOp} (hs : slimEff P o = some so) (h : stepS P so E S c) : OpX P o E S c := by
  have free : slimFree P o = some so → OpX P o E S c := fun hs => by
    cases hx : isX so with
    | false =>
      cases hl : isLit so with
      | false =>
        rw [stepS_free hx hl] at h
        exact OpX.of_free (slimFree_sound hs h)
      | true =>
        cases so <;> simp [isLit] at hl
        rename_i ty sz n zero parts'
        rcases h with h | ⟨h0, xs, h1, h2, h3, h4⟩
        · exact OpX.of_free (slimFree_sound hs h)
        · obtain ⟨T, parts, k1, k2, k3, k4, k5, k6, k7, k8⟩ := slimFree_lit hs
          exact okX_lit k1 k2 k3 k4 k5 k6 k7 k8 h0 h1 h2 h3 h4
    | true =>
      have hne := slimFree_notEff hs
      cases so <;> simp [isX, isEff] at hx hne
      · obtain ⟨args, ats, h1, h2, h3⟩ := slimFree_call hs
        exact okX_call h1 h2 h3 h
      · obtain ⟨x, args, ats, h1, h2, h3⟩ := slimFree_callv hs
        simp only [stepS] at h
        split at h
        · rename_i f caps hcl
          exact okX_callv h1 h2 h3 hcl h.1 h.2
        · exact h.elim
  unfold slimEff at hs
  split at hs
  · rename_i T x hop
    split at hs <;> simp at hs
    subst hs
    rename_i h1 h2
    simp only [stepS] at h
    split at h
    · rename_i cs hcs; exact okS_box hop h2 hcs h.1 h.2
    · exact h.elim
  · rename_i T hop
    split at hs
    · rename_i z agg h1 h2
      split at hs
      · rename_i h3
        simp at hs; subst hs
        simp only [stepS] at h
        exact okS_alloc hop h1 rfl rfl h3 h
      · simp at hs
    · simp at hs
  · rename_i T x y hop
    split at hs <;> simp at hs
    subst hs
    rename_i h1 h2 h3
    simp only [stepS] at h
    split at h
    · rename_i o' i j e1
      split at h
      · rename_i ob hob
        obtain ⟨hi, h⟩ := h
        split at h
        · rename_i cs ds hcs hds
          obtain ⟨⟨g1, g2, g3, g4, g5⟩, h⟩ := h
          exact okS_store hop h1 h2 h3 e1 hob hi hcs g1 hds g2 g3 (fun d hd => List.all_eq_true.1 g4 d hd) g5 h
        · exact h.elim
      · exact h.elim
    · exact h.elim
  · rename_i T l c' hop
    split at hs
    · rename_i hlc
      subst hlc
      split at hs
      · rename_i e hT
        split at hs
        · rename_i i z agg h1 h2 h3
          split at hs
          · rename_i h4
            simp at hs; subst hs
            simp only [stepS] at h
            split at h
            · rename_i k m e1
              obtain ⟨⟨g1, g2, g3⟩, h⟩ := h
              exact okS_mks hop hT h1 h2 h4.1 h4.2 rfl e1 g1 g2 g3 h
            · exact h.elim
          · simp at hs
        · simp at hs
      · simp at hs
    · simp at hs
  · rename_i args ats hop
    split at hs
    · rename_i x y T T' h1 h2
      split at hs
      · rename_i hTT
        subst hTT
        split at hs
        · rename_i e x' y' hT hx hy
          split at hs
          · rename_i i z h3 h4
            split at hs
            · rename_i h5
              simp at hs; subst hs
              simp only [stepS] at h
              split at h
              · rename_i ys hys
                rw [arr2 h1, arr2 h2] at hop
                obtain ⟨ha, h⟩ := h
                rcases h with ⟨k1, k2, k3⟩ | ⟨oo, xs, k1, k2, k3, k4⟩ | h
                · exact okX_app0 hop hT h3 h4 h5.1 hx hy hys ha k1 k2 k3
                · exact okX_appd hop hT h3 h4 h5.1 hx hy hys ha k1 k2 k3 k4
                cases hev : ev E x' with
                | sub oo off n cap =>
                  rw [hev] at h
                  obtain ⟨ob, k1, k2, k3, k4, k5, k6⟩ := h
                  exact okX_apps hop hT h3 h4 h5.1 hx hy hys ha hev k1 k2 k3 k4 k5 k6
                | _ => refine okS_app hop hT h3 h4 h5.1 hx hy hys ha ?_; rw [hev] at h ⊢; exact h
              · exact h.elim
            · simp at hs
          · simp at hs
        · simp at hs
      · split at hs
        · rename_i e kn x' y' hT hT' hx hy
          split at hs
          · rename_i i z agg h3 h4 h6
            split at hs
            · rename_i h5
              simp at hs; subst hs
              simp only [stepS] at h
              split at h
              · rename_i k m e2
                rw [arr2 h1, arr2 h2] at hop
                exact okX_appz hop hT hT' h3 h4 h5.1 h5.2.1 h5.2.2 hx hy e2 h.1 h.2
              · exact h.elim
            · simp at hs
          · simp at hs
        · simp at hs
    · simp at hs
  · rename_i args ats hop
    split at hs
    · rename_i x y T T' h1 h2
      split at hs
      · rename_i e x' y' hT hx hy
        split at hs
        · rename_i i h3
          simp at hs; subst hs
          simp only [stepS] at h
          split at h
          · rename_i ys hys
            rw [arr2 h1, arr2 h2] at hop
            exact okX_copy hop hT h3 hx hy hys h
          · exact h.elim
        · simp at hs
      · simp at hs
    · simp at hs
  · rename_i args ats hop
    split at hs
    · rename_i x T h1 h2
      split at hs
      · rename_i e x' hT hx
        split at hs
        · rename_i i z agg h3 h4 h6
          split at hs
          · rename_i h5
            simp at hs; subst hs
            simp only [stepS] at h
            rw [arr1 h1, arr1 h2] at hop
            exact okX_clear hop hT h3 h4 h5.1 h5.2.1 hx h5.2.2 h
          · simp at hs
        · simp at hs
      · simp at hs
    · simp at hs
  · rename_i op T x y T' hop
    split at hs
    · rename_i e hT
      split at hs
      · rename_i n' c' x' hx
        simp at hs; subst hs
        simp only [stepS] at h
        by_cases hq : op = .eql ∨ op = .neq
        · rw [if_pos hq] at hT
          refine okX_isnil hop hT ?_ hx h
          rcases hq with rfl | rfl <;> rfl
        · rw [if_neg hq] at hT; cases hT
      · simp at hs
    · exact free hs
  · rename_i f args ats hop
    split at hs
    · exact free hs
    · split at hs
      · rename_i x y h1
        split at hs
        · rename_i x' y' hx hy
          simp at hs; subst hs
          simp only [stepS] at h
          rw [arr2 h1] at hop
          exact okX_ovl hop hx hy h.1 h.2
        · simp at hs
      · simp at hs
  · simp at hs; subst hs; exact h.elim
  · simp at hs; subst hs; exact h.elim
  · exact free hs

end Go.V
