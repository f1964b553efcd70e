/- A part of the proofs about laws of the page tree (see the text that bears the law): a small language of steps, its rules, and what the functions of the program return. -/
import Derived.Test.YtgblkaealpggdaaLB
import Derived.Below
import Derived.OpenShut
set_option linter.all false
set_option linter.unusedVariables false
set_option linter.unusedSimpArgs false
namespace Go.V

def CallS (P : Program) (f : FuncId) (ds : List D) (S : Store) (c : D → Store → Prop) : Prop :=
  ∀ (ρ : Rho) (I : Nat → Prop) (w : World) (vs : List Value), St ρ I w S → RDs ρ I w vs ds →
    Calls P f vs.toArray w fun e w' => ∃ u d ρ' I' S', e = .returned u ∧ c d S' ∧ St ρ' I' w' S' ∧ RD ρ' I' w' u d ∧ Ext S.length ρ I w ρ' I' w'

theorem CallS.mono {P : Program} {f : FuncId} {ds : List D} {S : Store} {c c' : D → Store → Prop} (h : CallS P f ds S c) (hc : ∀ d S', c d S' → c' d S') : CallS P f ds S c' :=
  fun ρ I w vs hs hv => (h ρ I w vs hs hv).mono fun _ _ ⟨u, d, ρ', I', S', h1, h2, h3⟩ => ⟨u, d, ρ', I', S', h1, hc d S' h2, h3⟩

theorem CallS.pure {P : Program} {f : FuncId} {ds : List D} {ps : List PV} {S : Store} {c : D → Store → Prop} {Post : PV → Prop} (h : PCon P f ps Post) (hp : toPVs ds = some ps)
    (hc : ∀ p, Post p → c (ofPV p) S) : CallS P f ds S c := fun ρ I w vs hs hv =>
  (h I w vs hs.old (toPVs_sound hp hv)).mono fun _ _ ⟨u, p, I', h1, h2, h3, h4⟩ => ⟨u, ofPV p, ρ, I', S, h1, hc p h2, hs.grow h3, rd_rho h4, h3.ext' hs⟩

theorem CallS.pure' {P : Program} {f : FuncId} {ds : List D} {ps : List PV} {S : Store} {c : D → Store → Prop} {r : PV} (h : PCon P f ps (fun p => p = r)) (hp : toPVs ds = some ps)
    (hc : c (ofPV r) S) : CallS P f ds S c := CallS.pure h hp fun p e => by subst e; exact hc

section ops
variable {P : Program} {S : Store} {o : Oper} {E : Env} {c : D → Store → Prop}

theorem okX_call {f : FuncId} {args : Array Operand} {args' : List Opd} {ats : Array TypeId} (hop : o.op = .call { callee := .value (.func f), args := args, argTypes := ats })
    (hx : dOpds args.toList = some args') (hf : callable P f = true) (h : CallS P f (args'.map (ev E)) S c) : OpX P o E S c := fun ρ I w ac next Q hst he hn => by
  have g := dOpds_sound (E := E) (ρ := ρ) (I := I) (w := w) (a := ac) hx (fun t ht => he t (slots_mem (by simp [hop, Op.operands, Call.operands]; simpa using ht)))
  refine wp_enter (f := f) (args := (args.toList.map ac.eval).toArray) ?_ ?_
  · have : args.map ac.eval = (args.toList.map ac.eval).toArray := by rw [← Array.toList_map]
    rw [← this]
    have hev : ac.eval (.func f) = .func (.func f) #[] #[] := rfl
    simp [execOp, hop, resolve, hev, Deferred.ofValue, invoke, run_callFunc hf]
  · exact (h ρ I w _ hst g).mono fun e w' ⟨u, d, ρ', I', S', h1, h2, h3, h4, h5⟩ => ⟨u, h1, hn u d ρ' I' w' S' h2 h3 h4 h5⟩

def cloOf : D → Option (FuncId × List D)
  | .clo f caps => if caps.all smp then some (f, caps) else none
  | .pv (.clo f caps) => some (f, caps.map .pv)
  | _ => none

theorem RDs_append {ρ : Rho} {I : Nat → Prop} {w : World} : ∀ {vs us : List Value} {ds es : List D}, RDs ρ I w vs ds → RDs ρ I w us es → RDs ρ I w (vs ++ us) (ds ++ es)
  | [], _, [], _, _, h => h
  | _ :: _, _, _ :: _, _, h, h' => ⟨h.1, RDs_append h.2 h'⟩
  | [], _, _ :: _, _, h, _ => h.elim
  | _ :: _, _, [], _, h, _ => h.elim
theorem RDs_of {ρ : Rho} {I : Nat → Prop} {w : World} : ∀ {vs : List Value} {ds : List D}, vs.length = ds.length → (∀ i (h : i < vs.length) (h' : i < ds.length), RD ρ I w vs[i] ds[i]) → RDs ρ I w vs ds
  | [], [], _, _ => trivial
  | v :: vs, p :: ps, hl, h => ⟨h 0 (by simp) (by simp), RDs_of (by simpa using hl) fun i hi hi' => by have := h (i + 1) (by simpa using hi) (by simpa using hi'); simpa using this⟩

theorem cloOf_sound {ρ : Rho} {I : Nat → Prop} {w : World} {v : Value} {d : D} {f : FuncId} {caps : List D} (h : cloOf d = some (f, caps)) (hr : RD ρ I w v d) :
    ∃ vs : List Value, v = .func (.func f) #[] vs.toArray ∧ RDs ρ I w vs caps := by
  cases d with
  | clo f' caps' =>
    simp only [cloOf] at h
    split at h <;> simp at h
    rename_i hall
    obtain ⟨rfl, rfl⟩ := h
    have hr' : R1 ρ I w v (.clo f' caps') := hr
    obtain ⟨vs, h1, h2, h3⟩ := hr'
    exact ⟨vs, h1, RDs_of h2 fun i hi hi' => smp_rd (List.all_eq_true.1 hall _ (List.getElem_mem hi')) (h3 i hi hi')⟩
  | pv p =>
    cases p with
    | clo f' caps' =>
      simp [cloOf] at h
      obtain ⟨rfl, rfl⟩ := h
      have hr' : RC I w [v] (.clo f' caps') := hr
      cases hr' with
      | clo _ vs _ h1 h2 h3 =>
        exact ⟨vs, rfl, RDs_of (by simpa using h1) fun i hi hi' => by
          simp only [List.getElem_map]
          exact (rd_pv (h3 _ (List.getElem_mem _))).2 (h2 i hi (by simpa using hi'))⟩
    | _ => simp [cloOf] at h
  | _ => simp [cloOf] at h

theorem okX_callv {x : Operand} {x' : Opd} {args : Array Operand} {args' : List Opd} {ats : Array TypeId} {f : FuncId} {caps : List D} (hop : o.op = .call { callee := .value x, args := args, argTypes := ats })
    (hx' : dOpd x = some x') (hx : dOpds args.toList = some args') (hcl : cloOf (ev E x') = some (f, caps)) (hf : callable P f = true) (h : CallS P f (args'.map (ev E) ++ caps) S c) : OpX P o E S c := fun ρ I w ac next Q hst he hn => by
  have g0 := dOpd_sound hx' fun t ht => he t (slots_mem (by simp [hop, Op.operands, Call.operands, ht]))
  have g := dOpds_sound (E := E) (ρ := ρ) (I := I) (w := w) (a := ac) hx (fun t ht => he t (slots_mem (by simp [hop, Op.operands, Call.operands]; exact Or.inr (by simpa using ht))))
  obtain ⟨vs, hv, hcaps⟩ := cloOf_sound hcl g0
  refine wp_enter (f := f) (args := (args.toList.map ac.eval ++ vs).toArray) ?_ ?_
  · simp [execOp, hop, resolve, hv, Deferred.ofValue, invoke, run_callFunc hf]
  · exact (h ρ I w _ hst (RDs_append g hcaps)).mono fun e w' ⟨u, d, ρ', I', S', h1, h2, h3, h4, h5⟩ => ⟨u, h1, hn u d ρ' I' w' S' h2 h3 h4 h5⟩
end ops

def stepS (P : Program) (op : SOp) (E : Env) (S : Store) (c : D → Store → Prop) : Prop :=
  match op with
  | .box ty sz x => match cellsD (ev E x) with
    | some cs => cs.length = sz ∧ c (.ptr S.length 0 0) (S ++ [some ⟨ty, sz, [ev E x]⟩])
    | none => False
  | .alloc ty sz z => c (.ptr S.length 0 0) (S ++ [some ⟨ty, sz, [z]⟩])
  | .store sz x y => match ev E x with
    | .ptr o i j => match S[o]? with
      | some (some ob) => ∃ h : i < ob.xs.length, match cellsD ob.xs[i], cellsD (ev E y) with
        | some cs, some ds => (cs.length = ob.sz ∧ ds.length = sz ∧ j + sz ≤ ob.sz ∧ ds.all isCell = true ∧ (isOne ob.xs[i] = true → isOne (ev E y) = true)) ∧
            c .undef (S.set o (some { ob with xs := ob.xs.set i (if isOne ob.xs[i] then ev E y else .agg (setAt cs j ds)) }))
        | _, _ => False
      | _ => False
    | _ => False
  | .mks ty sz bytes z n => match ev E n with
    | .pv (.int _ m) => (0 ≤ m ∧ (bytes : Int) * m ≤ 281474976710656 ∧ m ≤ 9223372036854775807) ∧ c (.own S.length m.toNat) (S ++ [some ⟨ty, sz, List.replicate m.toNat z⟩])
    | _ => False
  | .app ty sz bytes x y => match elemsOf S sz (ev E y) with
    | some ys => ys.all cellOK = true ∧ ((ev E x = .nils ∧ (ys.length * bytes ≤ 140737488355328 ∧ ys.length ≤ maxLen) ∧ c (ownD S.length ys) (S ++ [obD ty sz ys])) ∨
      (∃ oo xs, ev E x = ownD oo xs ∧ S[oo]? = some (obD ty sz xs) ∧ ((xs.length + ys.length) * bytes ≤ 140737488355328 ∧ xs.length + ys.length ≤ maxLen) ∧ c (ownD S.length (xs ++ ys)) (S.set oo none ++ [obD ty sz (xs ++ ys)])) ∨ match ev E x with
      | .nils => (ys = [] → c .nils S) ∧ (ys ≠ [] → ys.length * bytes ≤ 140737488355328 ∧ ys.length ≤ maxLen ∧ c (.own S.length ys.length) (S ++ [some ⟨ty, sz, ys⟩]))
      | .own oo n => (ys = [] → c (.own oo n) S) ∧ (ys ≠ [] → ∃ ob, S[oo]? = some (some ob) ∧ ob.ty = ty ∧ ob.sz = sz ∧ ob.xs.length = n ∧ (n + ys.length) * bytes ≤ 140737488355328 ∧ n + ys.length ≤ maxLen ∧
          c (.own S.length (n + ys.length)) (S.set oo none ++ [some { ob with xs := ob.xs ++ ys }]))
      | .sub oo off n cap => ∃ ob, S[oo]? = some (some ob) ∧ ob.sz = sz ∧ off + n ≤ ob.xs.length ∧ (ys = [] → c (.sub oo off n cap) S) ∧
          (ys ≠ [] → n + ys.length ≤ cap → c (.sub oo off (n + ys.length) cap) (S.set oo (some { ob with xs := splice ob.xs (off + n) ys }))) ∧
          (ys ≠ [] → cap < n + ys.length → (n + ys.length) * bytes ≤ 140737488355328 ∧ n + ys.length ≤ maxLen ∧ c (.own S.length (n + ys.length)) (S ++ [some ⟨ty, sz, (ob.xs.drop off).take n ++ ys⟩]))
      | _ => False)
    | none => False
  | .appz ty sz bytes z x n => match ev E n with
    | .pv (.int _ m) => 0 < m ∧ match ev E x with
      | .nils => m.toNat * bytes ≤ 140737488355328 ∧ m.toNat ≤ maxLen ∧ c (.own S.length m.toNat) (S ++ [some ⟨ty, sz, List.replicate m.toNat z⟩])
      | .sub oo off n cap => ∃ ob, S[oo]? = some (some ob) ∧ ob.sz = sz ∧ off + n ≤ ob.xs.length ∧ cap < n + m.toNat ∧ (n + m.toNat) * bytes ≤ 140737488355328 ∧ n + m.toNat ≤ maxLen ∧
          c (.own S.length (n + m.toNat)) (S ++ [some ⟨ty, sz, (ob.xs.drop off).take n ++ List.replicate m.toNat z⟩])
      | _ => False
    | _ => False
  | .copy sz x y => match elemsOf S sz (ev E y) with
    | some ys => match ev E x with
      | .nils => c .any S
      | .own oo n => (ys.take n).all cellOK = true ∧ ∃ ob, S[oo]? = some (some ob) ∧ ob.sz = sz ∧ n ≤ ob.xs.length ∧ c .any (S.set oo (some { ob with xs := splice ob.xs 0 (ys.take n) }))
      | .sub oo off n _ => (ys.take n).all cellOK = true ∧ ∃ ob, S[oo]? = some (some ob) ∧ ob.sz = sz ∧ off + n ≤ ob.xs.length ∧ c .any (S.set oo (some { ob with xs := splice ob.xs off (ys.take n) }))
      | _ => False
    | none => False
  | .clear sz z x => match ev E x with
    | .nils => c .any S
    | .sub oo off n _ => ∃ ob, S[oo]? = some (some ob) ∧ ob.sz = sz ∧ off + n ≤ ob.xs.length ∧ (n = 0 → c .any S) ∧ (n ≠ 0 → c .any (S.set oo (some { ob with xs := splice ob.xs off (List.replicate n z) })))
    | _ => False
  | .isnil ng x => match ev E x with
    | .nils => c (.pv (.bool true)) S ∧ c (.pv (.bool false)) S
    | .pv (.sl xs) => c (.pv (.bool ng)) S ∧ (xs = [] → c (.pv (.bool !ng)) S)
    | .own _ _ => c (.pv (.bool ng)) S
    | .sub _ _ _ _ => c (.pv (.bool ng)) S
    | _ => False
  | .ovl f x y => OvlOK P f ∧ match ev E x, ev E y with
    | .pv (.sl _), .nils => c (.pv (.bool false)) S
    | .pv (.sl xs), .sub oo _ _ _ => (∃ ob, S[oo]? = some (some ob) ∧ 0 < ob.sz) ∧ (xs.all fun x => decide (0 < x.nc)) = true ∧ c (.pv (.bool false)) S
    | _, _ => False
  | .dead => False
  | .lit ty sz n zero parts => stepF P S (.lit ty sz n zero parts) E (fun d => c d S) ∨
      (n ≠ 0 ∧ ∃ xs, litD E sz n parts = some xs ∧ (∀ x ∈ xs, x.nc = sz) ∧ zero.length = sz ∧ c (.own S.length n) (S ++ [some ⟨ty, sz, xs.map .pv⟩])) ∨
      (n ≠ 0 ∧ ∃ xs, litA E parts = some xs ∧ (∀ x ∈ xs, x.length = sz) ∧ zero.length = sz ∧ c (.own S.length n) (S ++ [some ⟨ty, sz, xs.map .agg⟩]))
  | .call f args => CallS P f (args.map (ev E)) S c
  | .callv x args => match cloOf (ev E x) with
    | some (f, caps) => callable P f = true ∧ CallS P f (args.map (ev E) ++ caps) S c
    | none => False
  | op => stepF P S op E fun d => c d S

def isX : SOp → Bool
  | .box .. | .alloc .. | .store .. | .mks .. | .app .. | .call .. | .callv .. | .appz .. | .copy .. | .clear .. | .isnil .. | .ovl .. | .dead => true
  | _ => false
def isEff : SOp → Bool
  | .box .. | .alloc .. | .store .. | .mks .. | .app .. | .appz .. | .copy .. | .clear .. | .isnil .. | .ovl .. | .dead => true
  | _ => false

def slimEff (P : Program) (o : Oper) : Option SOp :=
  match o.op with
  | .box T x => match szT P T, dOpd x with
    | some sz, some x => some (.box T sz x)
    | _, _ => none
  | .alloc T => match zeroT P T, aggT P T with
    | some z, some agg => if (agg = false → z.length = 1) then some (.alloc T z.length (zeroEl agg z)) else none
    | _, _ => none
  | .store T x y => match szT P T, dOpd x, dOpd y with
    | some sz, some x, some y => some (.store sz x y)
    | _, _, _ => none
  | .makeSlice T (.tmp l) (.tmp c) => if l = c then match P.underlying T with
      | some (.slice e) => match P.info? e, zeroT P e, aggT P e with
        | some i, some z, some agg => if z.length = i.size ∧ (agg = false → z.length = 1) then some (.mks e i.size i.bytes (zeroEl agg z) (.t l)) else none
        | _, _, _ => none
      | _ => none
    else none
  | .call { callee := .builtin .append, args, argTypes } => match args.toList, argTypes.toList with
    | [x, y], [T, T'] => if T = T' then match P.underlying T, dOpd x, dOpd y with
        | some (.slice e), some x, some y => match P.info? e, zeroT P e with
          | some i, some z => if z.length = i.size ∧ 0 < i.size then some (.app e i.size i.bytes x y) else none
          | _, _ => none
        | _, _, _ => none
      else match P.underlying T, P.underlying T', dOpd x, dOpd y with
        | some (.slice e), some (.int _), some x, some y => match P.info? e, zeroT P e, aggT P e with
          | some i, some z, some agg => if z.length = i.size ∧ 0 < i.size ∧ (agg = false → z.length = 1) then some (.appz e i.size i.bytes (zeroEl agg z) x y) else none
          | _, _, _ => none
        | _, _, _, _ => none
    | _, _ => none
  | .call { callee := .builtin .copy, args, argTypes } => match args.toList, argTypes.toList with
    | [x, y], [T, _] => match P.underlying T, dOpd x, dOpd y with
        | some (.slice e), some x, some y => match P.info? e with
          | some i => some (.copy i.size x y)
          | none => none
        | _, _, _ => none
    | _, _ => none
  | .call { callee := .builtin .clear, args, argTypes } => match args.toList, argTypes.toList with
    | [x], [T] => match P.underlying T, dOpd x with
        | some (.slice e), some x => match P.info? e, zeroT P e, aggT P e with
          | some i, some z, some agg => if z.length = i.size ∧ (agg = false → z.length = 1) ∧ cellOK (zeroEl agg z) = true then some (.clear i.size (zeroEl agg z) x) else none
          | _, _, _ => none
        | _, _ => none
    | _, _ => none
  | .binOp op T x y _ => match (if op = .eql ∨ op = .neq then P.underlying T else none) with
    | some (.slice _) => match y, dOpd x with
      | .const (.slice none _ _), some x => some (.isnil (op == .neq) x)
      | _, _ => none
    | _ => slimFree P o
  | .call { callee := .value (.func f), args, argTypes } => if callable P f then slimFree P o else match args.toList with
    | [x, y] => match dOpd x, dOpd y with
      | some x, some y => some (.ovl f x y)
      | _, _ => none
    | _ => none
  | .panic _ => some .dead
  | .makeInterface _ _ => some .dead
  | _ => slimFree P o

def isLit : SOp → Bool
  | .lit .. => true
  | _ => false
theorem stepS_free {P : Program} {op : SOp} {E : Env} {S : Store} {c : D → Store → Prop} (h : isX op = false) (hl : isLit op = false) : stepS P op E S c = stepF P S op E fun d => c d S := by
  cases op <;> simp [isX, isLit] at h hl <;> rfl
theorem slimFree_lit {P : Program} {o : Oper} {ty sz n : Nat} {zero : List D} {parts' : List (Nat × Opd)} (h : slimFree P o = some (.lit ty sz n zero parts')) :
    ∃ T parts, o.op = .buildSlice T n parts ∧ P.underlying T = some (.slice ty) ∧ szT P ty = some sz ∧ zeroT P ty = some zero ∧ litParts 0 parts.toList = some parts' ∧ parts.size = n ∧ sz ≠ 0 ∧ n * sz ≤ 2 ^ 24 := by
  unfold slimFree at h
  split at h
  case h_14 T n' parts hop =>
    split at h
    · rename_i e h1
      split at h
      · rename_i sz' zero' ps h2 h3 h4
        split at h
        · rename_i h5
          simp at h
          obtain ⟨rfl, rfl, rfl, rfl, rfl⟩ := h
          exact ⟨T, parts, hop, h1, h2, h3, h4, h5⟩
        · simp at h
      · simp at h
    · simp at h
  all_goals
    repeat' split at h
    all_goals first
      | (simp at h; done)
      | (obtain ⟨_, _, h2⟩ := Option.map_eq_some_iff.1 h; simp at h2; done)

theorem slimFree_notEff {P : Program} {o : Oper} {so : SOp} (h : slimFree P o = some so) : isEff so = false := by
  unfold slimFree at h
  repeat' split at h
  all_goals first
    | (simp at h; done)
    | (simp at h; subst h; rfl)
    | (obtain ⟨_, _, rfl⟩ := Option.map_eq_some_iff.1 h; rfl)

theorem slimFree_call {P : Program} {o : Oper} {f : FuncId} {args' : List Opd} (h : slimFree P o = some (.call f args')) :
    ∃ args ats, o.op = .call { callee := .value (.func f), args := args, argTypes := ats } ∧ dOpds args.toList = some args' ∧ callable P f = true := by
  unfold slimFree at h
  split at h
  case h_19 f' args ats hop =>
    split at h
    · rename_i hf
      obtain ⟨as, h1, h2⟩ := Option.map_eq_some_iff.1 h
      simp at h2
      obtain ⟨rfl, rfl⟩ := h2
      exact ⟨args, ats, hop, h1, hf⟩
    · simp at h
  all_goals
    repeat' split at h
    all_goals first
      | (simp at h; done)
      | (obtain ⟨_, _, h2⟩ := Option.map_eq_some_iff.1 h; simp at h2; done)

theorem slimFree_callv {P : Program} {o : Oper} {x' : Opd} {args' : List Opd} (h : slimFree P o = some (.callv x' args')) :
    ∃ x args ats, o.op = .call { callee := .value x, args := args, argTypes := ats } ∧ dOpd x = some x' ∧ dOpds args.toList = some args' := by
  unfold slimFree at h
  split at h
  case h_20 x args ats _ hop =>
    split at h
    · rename_i h1 h2
      simp at h
      obtain ⟨rfl, rfl⟩ := h
      exact ⟨x, args, ats, hop, h1, h2⟩
    · simp at h
  all_goals
    repeat' split at h
    all_goals first
      | (simp at h; done)
      | (obtain ⟨_, _, h2⟩ := Option.map_eq_some_iff.1 h; simp at h2; done)

theorem slimEff_sound {P : Program} {o : Oper} {E : Env} {S : Store} {c : D → Store → Prop} {so : SOp} (hs : slimEff P o = some so) (h : stepS P so E S c) : OpX P o E S c := by
  have free : slimFree P o = some so → OpX P o E S c := fun hs => by
    cases hx : isX so with
    | false =>
      cases hl : isLit so with
      | false =>
        rw [stepS_free hx hl] at h
        exact OpX.of_free (slimFree_sound hs h)
      | true =>
        cases so <;> simp [isLit] at hl
        rename_i ty sz n zero parts'
        rcases h with h | ⟨h0, xs, h1, h2, h3, h4⟩ | ⟨h0, xs, h1, h2, h3, h4⟩
        · exact OpX.of_free (slimFree_sound hs h)
        · obtain ⟨T, parts, k1, k2, k3, k4, k5, k6, k7, k8⟩ := slimFree_lit hs
          exact okX_lit k1 k2 k3 k4 k5 k6 k7 k8 h0 h1 h2 h3 h4
        · obtain ⟨T, parts, k1, k2, k3, k4, k5, k6, k7, k8⟩ := slimFree_lit hs
          exact okX_litA k1 k2 k3 k4 k5 k6 k7 k8 h0 h1 h2 h3 h4
    | true =>
      have hne := slimFree_notEff hs
      cases so <;> simp [isX, isEff] at hx hne
      · obtain ⟨args, ats, h1, h2, h3⟩ := slimFree_call hs
        exact okX_call h1 h2 h3 h
      · obtain ⟨x, args, ats, h1, h2, h3⟩ := slimFree_callv hs
        simp only [stepS] at h
        split at h
        · rename_i f caps hcl
          exact okX_callv h1 h2 h3 hcl h.1 h.2
        · exact h.elim
  unfold slimEff at hs
  split at hs
  · rename_i T x hop
    split at hs <;> simp at hs
    subst hs
    rename_i h1 h2
    simp only [stepS] at h
    split at h
    · rename_i cs hcs; exact okS_box hop h2 hcs h.1 h.2
    · exact h.elim
  · rename_i T hop
    split at hs
    · rename_i z agg h1 h2
      split at hs
      · rename_i h3
        simp at hs; subst hs
        simp only [stepS] at h
        exact okS_alloc hop h1 rfl rfl h3 h
      · simp at hs
    · simp at hs
  · rename_i T x y hop
    split at hs <;> simp at hs
    subst hs
    rename_i h1 h2 h3
    simp only [stepS] at h
    split at h
    · rename_i o' i j e1
      split at h
      · rename_i ob hob
        obtain ⟨hi, h⟩ := h
        split at h
        · rename_i cs ds hcs hds
          obtain ⟨⟨g1, g2, g3, g4, g5⟩, h⟩ := h
          exact okS_store hop h1 h2 h3 e1 hob hi hcs g1 hds g2 g3 (fun d hd => List.all_eq_true.1 g4 d hd) g5 h
        · exact h.elim
      · exact h.elim
    · exact h.elim
  · rename_i T l c' hop
    split at hs
    · rename_i hlc
      subst hlc
      split at hs
      · rename_i e hT
        split at hs
        · rename_i i z agg h1 h2 h3
          split at hs
          · rename_i h4
            simp at hs; subst hs
            simp only [stepS] at h
            split at h
            · rename_i k m e1
              obtain ⟨⟨g1, g2, g3⟩, h⟩ := h
              exact okS_mks hop hT h1 h2 h4.1 h4.2 rfl e1 g1 g2 g3 h
            · exact h.elim
          · simp at hs
        · simp at hs
      · simp at hs
    · simp at hs
  · rename_i args ats hop
    split at hs
    · rename_i x y T T' h1 h2
      split at hs
      · rename_i hTT
        subst hTT
        split at hs
        · rename_i e x' y' hT hx hy
          split at hs
          · rename_i i z h3 h4
            split at hs
            · rename_i h5
              simp at hs; subst hs
              simp only [stepS] at h
              split at h
              · rename_i ys hys
                rw [arr2 h1, arr2 h2] at hop
                obtain ⟨ha, h⟩ := h
                rcases h with ⟨k1, k2, k3⟩ | ⟨oo, xs, k1, k2, k3, k4⟩ | h
                · exact okX_app0 hop hT h3 h4 h5.1 hx hy hys ha k1 k2 k3
                · exact okX_appd hop hT h3 h4 h5.1 hx hy hys ha k1 k2 k3 k4
                cases hev : ev E x' with
                | sub oo off n cap =>
                  rw [hev] at h
                  obtain ⟨ob, k1, k2, k3, k4, k5, k6⟩ := h
                  exact okX_apps hop hT h3 h4 h5.1 hx hy hys ha hev k1 k2 k3 k4 k5 k6
                | _ => refine okS_app hop hT h3 h4 h5.1 hx hy hys ha ?_; rw [hev] at h ⊢; exact h
              · exact h.elim
            · simp at hs
          · simp at hs
        · simp at hs
      · split at hs
        · rename_i e kn x' y' hT hT' hx hy
          split at hs
          · rename_i i z agg h3 h4 h6
            split at hs
            · rename_i h5
              simp at hs; subst hs
              simp only [stepS] at h
              split at h
              · rename_i k m e2
                rw [arr2 h1, arr2 h2] at hop
                exact okX_appz hop hT hT' h3 h4 h5.1 h5.2.1 h5.2.2 hx hy e2 h.1 h.2
              · exact h.elim
            · simp at hs
          · simp at hs
        · simp at hs
    · simp at hs
  · rename_i args ats hop
    split at hs
    · rename_i x y T T' h1 h2
      split at hs
      · rename_i e x' y' hT hx hy
        split at hs
        · rename_i i h3
          simp at hs; subst hs
          simp only [stepS] at h
          split at h
          · rename_i ys hys
            rw [arr2 h1, arr2 h2] at hop
            exact okX_copy hop hT h3 hx hy hys h
          · exact h.elim
        · simp at hs
      · simp at hs
    · simp at hs
  · rename_i args ats hop
    split at hs
    · rename_i x T h1 h2
      split at hs
      · rename_i e x' hT hx
        split at hs
        · rename_i i z agg h3 h4 h6
          split at hs
          · rename_i h5
            simp at hs; subst hs
            simp only [stepS] at h
            rw [arr1 h1, arr1 h2] at hop
            exact okX_clear hop hT h3 h4 h5.1 h5.2.1 hx h5.2.2 h
          · simp at hs
        · simp at hs
      · simp at hs
    · simp at hs
  · rename_i op T x y T' hop
    split at hs
    · rename_i e hT
      split at hs
      · rename_i n' c' x' hx
        simp at hs; subst hs
        simp only [stepS] at h
        by_cases hq : op = .eql ∨ op = .neq
        · rw [if_pos hq] at hT
          refine okX_isnil hop hT ?_ hx h
          rcases hq with rfl | rfl <;> rfl
        · rw [if_neg hq] at hT; cases hT
      · simp at hs
    · exact free hs
  · rename_i f args ats hop
    split at hs
    · exact free hs
    · split at hs
      · rename_i x y h1
        split at hs
        · rename_i x' y' hx hy
          simp at hs; subst hs
          simp only [stepS] at h
          rw [arr2 h1] at hop
          exact okX_ovl hop hx hy h.1 h.2
        · simp at hs
      · simp at hs
  · simp at hs; subst hs; exact h.elim
  · simp at hs; subst hs; exact h.elim
  · exact free hs

end Go.V

namespace Go.V

def regS (P : Program) : List SO → Env → Store → (Env → Store → Prop) → Prop
  | [], E, S, K => K E S
  | o :: rest, E, S, K => match o.guard with
    | none => stepS P o.op E S fun d S => regS P rest (put E o.dst d) S K
    | some (g, want) => match E g with
      | .pv (.bool t) => (t = want → stepS P o.op (put E (some g) (.pv (.bool want))) S fun d S => regS P rest (put (put E (some g) (.pv (.bool want))) o.dst d) S K) ∧
          (t = !want → regS P rest (put (put E (some g) (.pv (.bool (!want)))) o.dst .undef) S K)
      | .undef => regS P rest (put E o.dst .undef) S K
      | _ => False

def slimEffs (P : Program) (ops : Array Oper) : List Oper → Option (List SO)
  | [] => some []
  | o :: rest => match slimEff P o, guardOf ops o, slimEffs P ops rest with
    | some so, some g, some r => some (⟨o.dst, g, so⟩ :: r)
    | _, _, _ => none

def dstsOK (N : Nat) (ops : Array Oper) : Bool := ops.all fun o => match o.dst with
  | some d => decide (d < N)
  | none => true
theorem dstsOK_spec {N : Nat} {ops : Array Oper} (h : dstsOK N ops = true) : ∀ o ∈ ops, ∀ d, o.dst = some d → d < N := fun o ho d hd => by
  have := Array.all_eq_true_iff_forall_mem.1 h o ho
  simpa [hd] using this

def EndS (k0 : Nat) (ρ : Rho) (I : Nat → Prop) (w : World) (N : Nat) (Q : Env → Store → Prop) (a' : Act) (w' : World) : Prop :=
  ∃ E' S' ρ' I', Q E' S' ∧ St ρ' I' w' S' ∧ ER ρ' I' w' a' E' ∧ a'.tmps.size = N ∧ a'.defers = [] ∧ Ext k0 ρ I w ρ' I' w'

theorem EndS.trans {k0 : Nat} {ρ ρ' : Rho} {I I' : Nat → Prop} {w w' : World} {N : Nat} {Q : Env → Store → Prop} {a' : Act} {w'' : World} (h : Ext k0 ρ I w ρ' I' w') (k : EndS k0 ρ' I' w' N Q a' w'') : EndS k0 ρ I w N Q a' w'' :=
  let ⟨E2, S2, ρ2, I2, q1, q2, q3, q4, q5, q6⟩ := k
  ⟨E2, S2, ρ2, I2, q1, q2, q3, q4, q5, h.trans q6⟩

theorem kept_of {k0 : Nat} {ρ ρ' : Rho} {I I' : Nat → Prop} {w w' : World} {S S' : Store} (hs : St ρ I w S) (hs' : St ρ' I' w' S') (h : Ext k0 ρ I w ρ' I' w') (hk : k0 ≤ S.length) : k0 ≤ S'.length := by
  have := h.kept
  rw [hs.len, hs'.len] at this
  omega

section reg
variable {P : Program} {ops : Array Oper} {N k0 : Nat}

theorem put_defers (a : Act) (d : Option Nat) (v : Value) : (a.put d v).defers = a.defers := by cases d <;> rfl

theorem regS_sound {K : Env → Store → Prop} {Q' : Exit → Act → World → Prop} (hN : ∀ o ∈ ops, ∀ d, o.dst = some d → d < N) :
    ∀ {l : List Oper} {l' : List SO} {E : Env} {S : Store} {k : Nat} {ρ : Rho} {I : Nat → Prop} {w : World} {a : Act}, slimEffs P ops l = some l' → regS P l' E S K → (∀ j : Nat, l[j]? = ops[k + j]?) →
      St ρ I w S → ER ρ I w a E → a.tmps.size = N → a.defers = [] → k0 ≤ S.length → (∀ a' w', EndS k0 ρ I w N K a' w' → Q' .normal a' w') → wpOps P ops Q' (List.range' k l.length) a w
  | [], l', E, S, k, ρ, I, w, a, h, hr, _, hs, he, ha, hd, hk, hQ => by
    simp [slimEffs] at h; subst h
    exact hQ a w ⟨E, S, ρ, I, hr, hs, he, ha, hd, Ext.refl _ _ _ _⟩
  | o :: l, l', E, S, k, ρ, I, w, a, h, hr, hl, hs, he, ha, hd, hk, hQ => by
    have h0 : ops[k]? = some o := by simpa using (hl 0).symm
    have hmem : o ∈ ops := Array.mem_of_getElem? h0
    rw [List.length_cons, List.range'_succ]
    simp only [wpOps, h0]
    have hl' : ∀ j : Nat, l[j]? = ops[k + 1 + j]? := fun j => by have := hl (j + 1); simpa [Nat.add_assoc, Nat.add_comm 1 j] using this
    have hdst : ∀ {a' : Act}, a'.tmps.size = N → ∀ t, o.dst = some t → t < a'.tmps.size := fun h' t ht => by rw [h']; exact hN o hmem t ht
    simp only [slimEffs] at h
    split at h <;> simp at h
    rename_i so g r h1 h2 h3
    subst h
    unfold guardOf at h2
    unfold regS at hr
    have run : ∀ {E : Env}, ER ρ I w a E → stepS P so E S (fun d S => regS P r (put E o.dst d) S K) → o.wp P a w (wpOps P ops Q' (List.range' (k + 1) l.length)) Q' := fun he hst =>
      slimEff_sound h1 hst ρ I w a _ _ hs (fun t _ => he t) fun u d ρ' I' w' S' hc hs' hu hx =>
        have hx0 := hx.le hk
        regS_sound hN h3 hc hl' hs' ((he.tr (hx.tr (by rw [hs.len]; exact Nat.le_refl _))).put (hdst ha) hu) (by rw [put_size]; exact ha) (by rw [put_defers]; exact hd) (kept_of hs hs' hx0 hk)
          fun a'' w'' h'' => hQ a'' w'' (h''.trans hx0)
    have skip : ∀ {E : Env}, ER ρ I w a E → regS P r (put E o.dst .undef) S K → wpOps P ops Q' (List.range' (k + 1) l.length) (a.put o.dst Go.undef) w := fun he hst =>
      regS_sound hN h3 hst hl' hs (he.put (hdst ha) (rd_undef.2 rfl)) (by rw [put_size]; exact ha) (by rw [put_defers]; exact hd) hk hQ
    split at h2
    · rename_i hg
      simp at h2; subst h2
      have hw : Region.wanted o (yielded ops a.tmps) = true := by simp [Region.wanted, hg]
      rw [if_pos hw]
      exact .inl (run he hr)
    · rename_i j want hg
      split at h2
      · rename_i t ht
        simp at h2; subst h2
        simp only at hr
        split at hr
        · rename_i b hb
          have hwd : wantD ops E o = some (b == want) := by simp [wantD, hg, ht, hb]
          rw [wantD_sound hwd he (by rw [ha]; exact hN)]
          by_cases hbw : b = want
          · subst hbw
            have := hr.1 rfl
            rw [put_same hb] at this
            simp only [beq_self_eq_true, if_true]
            exact .inl (run he this)
          · have hb2 : b = !want := by cases b <;> cases want <;> simp_all
            have := hr.2 hb2
            rw [← hb2, put_same hb] at this
            have hf : (b == want) = false := by rw [hb2]; cases want <;> rfl
            simp only [hf, Bool.false_eq_true, if_false]
            exact skip he this
        · rename_i hb
          have hwd : wantD ops E o = some false := by simp [wantD, hg, ht, hb]
          rw [wantD_sound hwd he (by rw [ha]; exact hN)]
          simp only [Bool.false_eq_true, if_false]
          exact skip he hr
        · exact hr.elim
      · simp at h2

/-! ## a region in any order, with operations that write -/

def Sub (SF S : Store) : Prop := ∀ (o : Nat) (ob : Ob), SF[o]? = some (some ob) → ∃ ob', S[o]? = some (some ob') ∧ ob.ty = ob'.ty ∧ ob.sz = ob'.sz ∧ ∃ ys, ob'.xs = ob.xs ++ ys
theorem Sub.of_eq {SF S : Store} (h : ∀ (o : Nat) (ob : Ob), SF[o]? = some (some ob) → S[o]? = some (some ob)) : Sub SF S := fun o ob ho => ⟨ob, h o ob ho, rfl, rfl, [], by simp⟩
theorem Sub.str {ρ : Rho} {I : Nat → Prop} {w : World} {SF S : Store} (h : Sub SF S) (hs : StR ρ I w S) : StR ρ I w SF := ⟨hs.old, fun o ob ho => by
  obtain ⟨ob', h1, h2, h3, ys, h4⟩ := h o ob ho
  obtain ⟨b, sz, g1, g2, cs, g3, g4, g5⟩ := hs.obs o ob' h1
  refine ⟨b, sz, g1, by rw [h3]; exact g2, cs, by rw [h2]; exact g3, Nat.le_trans (Nat.mul_le_mul_right _ (by rw [h4]; simp)) g4, fun i hi => ?_⟩
  have := g5 i (by rw [h4]; simp; omega)
  have e : ob'.xs[i]'(by rw [h4]; simp; omega) = ob.xs[i] := by simp [h4, List.getElem_append_left hi]
  rw [e] at this
  exact this⟩

inductive CF where
  | w
  | p
  | l
def isXc (cf : CF) (op : SOp) : Bool :=
  match op with
  | .call _ _ => match cf with
    | .p => false
    | _ => true
  | .callv _ _ => match cf with
    | .p => false
    | _ => true
  | .lit _ _ _ _ _ => match cf with
    | .l => true
    | _ => false
  | op => isX op
def xOp (P : Program) (cf : CF) (o : Oper) : Bool := match slimEff P o with
  | some so => isXc cf so
  | none => true

variable {cf : CF}
variable {SF : Store} {md : Region.Mode}

def depsOf (md : Region.Mode) (ops : Array Oper) (m : Nat) : List Nat :=
  match ops[m]? with
  | some o => (o.after.toList.filter fun e => Region.binds md e).map (·.on)
  | none => []
def closer (md : Region.Mode) (ops : Array Oper) (j : Nat) : Bool :=
  (j + 1 == ops.size) && (List.range j).all fun k => (List.range (j + 1)).any fun m => decide (k < m) && (depsOf md ops m).contains k
def Closed (md : Region.Mode) (ops : Array Oper) (listed : Array Bool) : Prop := ∀ a, listed.getD a false = true → ∀ k ∈ depsOf md ops a, listed.getD k false = true
theorem mem_deps {m k : Nat} : k ∈ depsOf md ops m ↔ ∃ o, ops[m]? = some o ∧ ∃ e ∈ o.after, Region.binds md e = true ∧ e.on = k := by
  unfold depsOf
  cases h : ops[m]? with
  | none => simp
  | some o => simp [and_assoc]
theorem closer_all {j : Nat} {listed : Array Bool} (hc : closer md ops j = true) (hcl : Closed md ops listed) (hj : j ∈ Region.ready md ops listed) : ∀ k, k < j → listed.getD k false = true := by
  unfold closer at hc
  simp only [Bool.and_eq_true, List.all_eq_true, List.any_eq_true, List.mem_range, decide_eq_true_eq] at hc
  obtain ⟨_, hc⟩ := hc
  obtain ⟨_, oj, hoj, hall⟩ := mem_ready.1 hj
  have main : ∀ n k, k < j → j - k ≤ n → listed.getD k false = true := by
    intro n
    induction n with
    | zero => intro k hk hn; omega
    | succ n ih =>
      intro k hk hn
      obtain ⟨m, hm, hkm, hd⟩ := hc k hk
      rw [List.contains_iff_mem] at hd
      by_cases hmj : m = j
      · subst hmj
        obtain ⟨o, ho, e, he, hb, rfl⟩ := mem_deps.1 hd
        rw [hoj] at ho
        simp at ho
        subst ho
        exact hall e he hb
      · exact hcl m (ih m (by omega) (by omega)) k hd
  exact fun k hk => main (j - k) k hk (Nat.le_refl _)
theorem closed_set {j : Nat} {listed : Array Bool} (hcl : Closed md ops listed) (hj : j ∈ Region.ready md ops listed) : Closed md ops (listed.setIfInBounds j true) := fun a ha k hk => by
  by_cases e : a = j
  · subst e
    obtain ⟨o, ho, e, he, hb, rfl⟩ := mem_deps.1 hk
    obtain ⟨_, oj, hoj, hall⟩ := mem_ready.1 hj
    rw [hoj] at ho
    simp at ho
    subst ho
    exact getD_set_true (hall e he hb)
  · rw [getD_set_ne false (Ne.symm e)] at ha
    exact getD_set_true (hcl a ha k hk)
theorem closer_end {j : Nat} {listed : Array Bool} (hc : closer md ops j = true) (hcl : Closed md ops listed) (hj : j ∈ Region.ready md ops listed) : Region.ready md ops (listed.setIfInBounds j true) = [] := by
  have hsz : j + 1 = ops.size := by
    unfold closer at hc
    simp only [Bool.and_eq_true, beq_iff_eq] at hc
    exact hc.1
  apply List.eq_nil_iff_forall_not_mem.2
  intro k hk
  obtain ⟨h0, o, ho, _⟩ := mem_ready.1 hk
  have hlt : k < ops.size := (Array.getElem?_eq_some_iff.1 ho).1
  by_cases e : k = j
  · subst e
    rcases Nat.lt_or_ge k listed.size with h' | h'
    · simp [h'] at h0
    · simp [Nat.not_lt.2 h'] at h0
  · have := closer_all hc hcl hj k (by omega)
    rw [getD_set_ne true (Ne.symm e)] at h0
    rcases Nat.lt_or_ge k listed.size with h' | h'
    · simp [h'] at h0 this; rw [this] at h0; cases h0
    · simp [Array.getElem?_eq_none h'] at h0

def mOp (P : Program) (cf : CF) (SF : Store) (md : Region.Mode) (ops : Array Oper) (i : Nat) (K : Env → Store → Prop) (E : Env) (S : Store) : Prop :=
  match ops[i]? with
  | none => K E S
  | some o => if xOp P cf o then (wantD ops E o = some true ∧ OpX P o E S fun d S' => (closer md ops i = true ∨ Sub SF S') ∧ K (put E o.dst d) S') ∨ (wantD ops E o = some false ∧ K (put E o.dst .undef) S)
    else ∃ d, YieldsD P SF ops o d E ∧ K (put E o.dst d) S

theorem OpX.mono {o : Oper} {E : Env} {S : Store} {c c' : D → Store → Prop} (h : OpX P o E S c) (hc : ∀ d S', c d S' → c' d S') : OpX P o E S c' :=
  fun ρ I w a next Q hs he hn => h ρ I w a next Q hs he fun u d ρ' I' w' S' h1 => hn u d ρ' I' w' S' (hc d S' h1)

theorem OpX.unput {o : Oper} {E : Env} {S : Store} {c : D → Store → Prop} {dst : Option Nat} {v : D} (h : OpX P o (V.put E dst v) S c) (hd : ∀ t, dst = some t → t ∉ o.looksAt ops) : OpX P o E S c := by
  intro ρ I w a next Q hs he hn
  refine h ρ I w a next Q hs (fun t ht => ?_) hn
  have := he t ht
  cases dst with
  | none => exact this
  | some s =>
    have hne : t ≠ s := fun e => hd s rfl (by subst e; exact List.mem_append_left _ ht)
    simpa [V.put, hne] using this

theorem mOp_mono {i : Nat} {K K' : Env → Store → Prop} {E : Env} {S : Store} (h : ∀ E S, K E S → K' E S) (hh : mOp P cf SF md ops i K E S) : mOp P cf SF md ops i K' E S := by
  unfold mOp at *
  split
  · exact h _ _ (by simpa [*] using hh)
  · rename_i o ho
    simp only [ho] at hh
    split
    · rename_i hx
      rw [if_pos hx] at hh
      exact hh.imp (fun ⟨h1, h2⟩ => ⟨h1, h2.mono fun d S' h3 => ⟨h3.1, h _ _ h3.2⟩⟩) fun ⟨h1, h2⟩ => ⟨h1, h _ _ h2⟩
    · rename_i hx
      rw [if_neg hx] at hh
      obtain ⟨d, h1, h2⟩ := hh
      exact ⟨d, h1, h _ _ h2⟩

def wpAnyM (P : Program) (cf : CF) (SF : Store) (md : Region.Mode) (ops : Array Oper) (Q : Env → Store → Prop) : Nat → Array Bool → Env → Store → Prop
  | 0, listed, E, S => Region.ready md ops listed = [] ∧ Q E S
  | fuel + 1, listed, E, S =>
    (Region.ready md ops listed = [] → Q E S) ∧
    ∀ i ∈ Region.ready md ops listed, mOp P cf SF md ops i (wpAnyM P cf SF md ops Q fuel (listed.setIfInBounds i true)) E S

theorem mOp_put {j : Nat} {oi oj : Oper} {d : D} (hj : ops[j]? = some oj) (hap : oi.apart ops oj = true) {K : Env → Store → Prop} {E : Env} {S : Store}
    (hy : YieldsD P SF ops oi d E) (h : mOp P cf SF md ops j K (put E oi.dst d) S) :
    mOp P cf SF md ops j (fun E' S' => YieldsD P SF ops oi d E' ∧ K (put E' oi.dst d) S') E S := by
  obtain ⟨h1, h2, h3⟩ := Oper.apart_spec hap
  unfold mOp at *
  simp only [hj] at *
  split
  · rename_i hx
    rw [if_pos hx, wantD_put oj E oi.dst d h1] at h
    refine h.imp (fun ⟨g1, g2⟩ => ⟨g1, (g2.unput h1).mono fun d' S' g3 => ⟨g3.1, hy.put h3, ?_⟩⟩) fun ⟨g1, g2⟩ => ⟨g1, hy.put h3, ?_⟩
    · rw [← put_comm E d d' h2]; exact g3.2
    · rw [← put_comm E d .undef h2]; exact g2
  · rename_i hx
    rw [if_neg hx] at h
    obtain ⟨d', hy', hK⟩ := h
    exact ⟨d', hy'.unput h1, hy.put h3, by rw [← put_comm E d d' h2]; exact hK⟩

theorem mOp_f {i : Nat} {oi : Oper} {d : D} {E : Env} {S : Store} {K : Env → Store → Prop} (hi : ops[i]? = some oi) (hf : xOp P cf oi = false) (hy : YieldsD P SF ops oi d E) (h : K (put E oi.dst d) S) : mOp P cf SF md ops i K E S := by
  unfold mOp
  simp only [hi, hf, Bool.false_eq_true, if_false]
  exact ⟨d, hy, h⟩

theorem wpAnyM_first {Q : Env → Store → Prop} {i : Nat} {oi : Oper} {d : D} (hi : ops[i]? = some oi) (hf : xOp P cf oi = false) :
    ∀ (fuel : Nat) (listed : Array Bool) (E : Env) (S : Store),
      (∀ j oj, ops[j]? = some oj → j ≠ i → listed.getD j true = false → (∀ e ∈ oj.after, Region.binds md e = true → e.on ≠ i) → oi.apart ops oj = true) →
      i ∈ Region.ready md ops listed → YieldsD P SF ops oi d E →
      wpAnyM P cf SF md ops Q fuel (listed.setIfInBounds i true) (put E oi.dst d) S → wpAnyM P cf SF md ops Q (fuel + 1) listed E S := by
  intro fuel
  induction fuel with
  | zero =>
    intro listed E S _ hr hy H
    refine ⟨fun h => (by rw [h] at hr; cases hr), fun j hj => ?_⟩
    by_cases hji : j = i
    · subst hji; exact mOp_f hi hf hy H
    · have := ready_mono hj hji
      rw [H.1] at this
      cases this
  | succ fuel ih =>
    intro listed E S hfree hr hy H
    refine ⟨fun h => (by rw [h] at hr; cases hr), fun j hj => ?_⟩
    by_cases hji : j = i
    · subst hji; exact mOp_f hi hf hy H
    · have h1 := H.2 j (ready_mono hj hji)
      obtain ⟨hjun, oj, hoj, hall⟩ := mem_ready.1 hj
      have hnot : ∀ e ∈ oj.after, Region.binds md e = true → e.on ≠ i := fun e he hb heq => by
        have h1 := hall e he hb
        have h0 := (mem_ready.1 hr).1
        rw [heq] at h1
        rcases Nat.lt_or_ge i listed.size with h' | h'
        · simp [h'] at h0 h1; rw [h0] at h1; cases h1
        · simp [Array.getElem?_eq_none h'] at h1
      have h2 := mOp_put hoj (hfree j oj hoj hji hjun hnot) hy h1
      have hfree' : ∀ k ok, ops[k]? = some ok → k ≠ i → (listed.setIfInBounds j true).getD k true = false →
          (∀ e ∈ ok.after, Region.binds md e = true → e.on ≠ i) → oi.apart ops ok = true := fun k ok hk hki hun hno => by
        refine hfree k ok hk hki ?_ hno
        by_cases hjk : j = k
        · subst hjk; exact hjun
        · rw [getD_set_ne true hjk] at hun; exact hun
      refine mOp_mono (fun E' S' h3 => ih (listed.setIfInBounds j true) E' S' hfree' (ready_mono hr (Ne.symm hji)) h3.1 ?_) h2
      rw [Array.setIfInBounds_comm _ _ hji]
      exact h3.2

def mkRT (P : Program) (cf : CF) (md : Region.Mode) (ops : Array Oper) (i : Nat) (t : Option RT) : Option RT :=
  match ops[i]?, t with
  | some o, some t => match slimEff P o, guardOf ops o with
    | some so, some g => some (match t with
      | .nil => if isXc cf so && closer md ops i then .last ⟨o.dst, g, so⟩ else .op ⟨o.dst, g, so⟩ .nil
      | t => .op ⟨o.dst, g, so⟩ t)
    | _, _ => none
  | _, _ => none
theorem mkRT_some {i : Nat} {t : Option RT} {r : RT} (h : mkRT P cf md ops i t = some r) : ∃ o so g t', ops[i]? = some o ∧ slimEff P o = some so ∧ guardOf ops o = some g ∧ t = some t' ∧ (r = .op ⟨o.dst, g, so⟩ t' ∨ (r = .last ⟨o.dst, g, so⟩ ∧ t' = .nil ∧ isXc cf so = true ∧ closer md ops i = true)) := by
  unfold mkRT at h
  split at h
  · rename_i o t' h1
    split at h <;> simp at h
    rename_i so g h3 h4
    refine ⟨o, so, g, t', h1, h3, h4, rfl, ?_⟩
    split at h
    · split at h
      · rename_i hz
        exact .inr ⟨h.symm, rfl, hz.1, hz.2⟩
      · exact .inl h.symm
    · exact .inl h.symm
  · simp at h
def orL : List (Option RT) → Option RT
  | [] => some .nil
  | [x] => x
  | x :: y :: xs => match x, orL (y :: xs) with
    | some a, some b => some (.or a b)
    | _, _ => none
def greedyT (P : Program) (cf : CF) (wd : Nat) (md : Region.Mode) (ops : Array Oper) : Nat → Array Bool → Option RT
  | 0, listed => if (Region.ready md ops listed).isEmpty then some .nil else none
  | fuel + 1, listed => match (Region.ready md ops listed).find? (fun i => match ops[i]? with | some o => !xOp P cf o | none => false) with
    | some i => if Region.free md ops listed i then mkRT P cf md ops i (greedyT P cf wd md ops fuel (listed.setIfInBounds i true)) else none
    | none => if (Region.ready md ops listed).length ≤ wd then orL ((Region.ready md ops listed).map fun i => mkRT P cf md ops i (greedyT P cf wd md ops fuel (listed.setIfInBounds i true))) else none

def stepM (P : Program) (cf : CF) (SF : Store) (op : SOp) (E : Env) (S : Store) (c : D → Store → Prop) : Prop :=
  if isXc cf op then stepS P op E S fun d S' => Sub SF S' ∧ c d S' else stepF P SF op E fun d => c d S

def regM (P : Program) (cf : CF) (SF : Store) : RT → Env → Store → (Env → Store → Prop) → Prop
  | .nil, E, S, K => K E S
  | .or a b, E, S, K => regM P cf SF a E S K ∧ regM P cf SF b E S K
  | .last o, E, S, K => match o.guard with
    | none => stepS P o.op E S fun d S => K (put E o.dst d) S
    | some (g, want) => match E g with
      | .pv (.bool t) => (t = want → stepS P o.op (put E (some g) (.pv (.bool want))) S fun d S => K (put (put E (some g) (.pv (.bool want))) o.dst d) S) ∧
          (t = !want → K (put (put E (some g) (.pv (.bool (!want)))) o.dst .undef) S)
      | .undef => K (put E o.dst .undef) S
      | _ => False
  | .op o rest, E, S, K => match o.guard with
    | none => stepM P cf SF o.op E S fun d S => regM P cf SF rest (put E o.dst d) S K
    | some (g, want) => match E g with
      | .pv (.bool t) => (t = want → stepM P cf SF o.op (put E (some g) (.pv (.bool want))) S fun d S => regM P cf SF rest (put (put E (some g) (.pv (.bool want))) o.dst d) S K) ∧
          (t = !want → regM P cf SF rest (put (put E (some g) (.pv (.bool (!want)))) o.dst .undef) S K)
      | .undef => regM P cf SF rest (put E o.dst .undef) S K
      | _ => False

theorem slimEff_free {o : Oper} {so : SOp} (h : slimEff P o = some so) (hx : isXc cf so = false) : slimFree P o = some so := by
  unfold slimEff at h
  repeat' split at h
  all_goals first
    | exact h
    | (simp at h; done)
    | (simp at h; subst h; simp [isXc, isX] at hx; done)

theorem step_mOp {i : Nat} {o : Oper} {so : SOp} {E : Env} {S : Store} {K : Env → Store → Prop} (hi : ops[i]? = some o) (h1 : slimEff P o = some so) (hw : wantD ops E o = some true)
    (h : stepM P cf SF so E S fun d S => K (put E o.dst d) S) : (xOp P cf o = true ∧ mOp P cf SF md ops i K E S) ∨ (xOp P cf o = false ∧ ∃ d, YieldsD P SF ops o d E ∧ K (put E o.dst d) S) := by
  have hx : xOp P cf o = isXc cf so := by simp [xOp, h1]
  unfold stepM at h
  split at h
  · rename_i hX
    left
    refine ⟨by rw [hx, hX], ?_⟩
    unfold mOp
    simp only [hi, hx, hX, if_true]
    exact .inl ⟨hw, (slimEff_sound h1 h).mono fun d S' h3 => ⟨.inr h3.1, h3.2⟩⟩
  · rename_i hX
    right
    have hX' : isXc cf so = false := by simpa using hX
    refine ⟨by rw [hx, hX'], ?_⟩
    obtain ⟨d, h2, h3⟩ := slimFree_sound (slimEff_free h1 hX') h
    exact ⟨d, .inl ⟨hw, h2⟩, h3⟩

theorem regM_step {i : Nat} {o : Oper} {E : Env} {S : Store} {K : Env → Store → Prop} {so : SOp} {g : Option (Nat × Bool)} {rest : RT} (hi : ops[i]? = some o) (h1 : slimEff P o = some so) (hg : guardOf ops o = some g)
    (h : regM P cf SF (.op ⟨o.dst, g, so⟩ rest) E S K) :
    (xOp P cf o = true ∧ mOp P cf SF md ops i (fun E S => regM P cf SF rest E S K) E S) ∨ (xOp P cf o = false ∧ ∃ d, YieldsD P SF ops o d E ∧ regM P cf SF rest (put E o.dst d) S K) := by
  have skip : wantD ops E o = some false → regM P cf SF rest (put E o.dst .undef) S K →
      (xOp P cf o = true ∧ mOp P cf SF md ops i (fun E S => regM P cf SF rest E S K) E S) ∨ (xOp P cf o = false ∧ ∃ d, YieldsD P SF ops o d E ∧ regM P cf SF rest (put E o.dst d) S K) := fun hw hr => by
    cases hx : xOp P cf o with
    | true =>
      refine .inl ⟨rfl, ?_⟩
      unfold mOp
      simp only [hi, hx, if_true]
      exact .inr ⟨hw, hr⟩
    | false => exact .inr ⟨rfl, .undef, .inr ⟨hw, rfl⟩, hr⟩
  unfold guardOf at hg
  unfold regM at h
  split at hg
  · rename_i hgu
    simp at hg; subst hg
    exact step_mOp (K := fun E S => regM P cf SF rest E S K) hi h1 (by simp [wantD, hgu]) h
  · rename_i j want hgu
    split at hg
    · rename_i t ht
      simp at hg; subst hg
      simp only at h
      split at h
      · rename_i b hb
        have hwd : wantD ops E o = some (b == want) := by simp [wantD, hgu, ht, hb]
        by_cases hbw : b = want
        · subst hbw
          have := h.1 rfl
          rw [put_same hb] at this
          exact step_mOp (K := fun E S => regM P cf SF rest E S K) hi h1 (by rw [hwd]; simp) this
        · have hb2 : b = !want := by cases b <;> cases want <;> simp_all
          have := h.2 hb2
          rw [← hb2, put_same hb] at this
          have hf : (b == want) = false := by rw [hb2]; cases want <;> rfl
          exact skip (by rw [hwd, hf]) this
      · rename_i hb
        exact skip (by simp [wantD, hgu, ht, hb]) h
      · exact h.elim
    · simp at hg

theorem last_mOp {i : Nat} {o : Oper} {so : SOp} {E : Env} {S : Store} {K : Env → Store → Prop} (hi : ops[i]? = some o) (h1 : slimEff P o = some so) (hx : isXc cf so = true) (hc : closer md ops i = true) (hw : wantD ops E o = some true)
    (h : stepS P so E S fun d S => K (put E o.dst d) S) : mOp P cf SF md ops i K E S := by
  have hx' : xOp P cf o = true := by simp [xOp, h1, hx]
  unfold mOp
  simp only [hi, hx', if_true]
  exact .inl ⟨hw, (slimEff_sound h1 h).mono fun d S' h3 => ⟨.inl hc, h3⟩⟩
theorem regM_last {i : Nat} {o : Oper} {E : Env} {S : Store} {K : Env → Store → Prop} {so : SOp} {g : Option (Nat × Bool)} (hi : ops[i]? = some o) (h1 : slimEff P o = some so) (hg : guardOf ops o = some g) (hx : isXc cf so = true) (hc : closer md ops i = true)
    (h : regM P cf SF (.last ⟨o.dst, g, so⟩) E S K) : mOp P cf SF md ops i K E S := by
  have hx' : xOp P cf o = true := by simp [xOp, h1, hx]
  have skip : wantD ops E o = some false → K (put E o.dst .undef) S → mOp P cf SF md ops i K E S := fun hw hr => by
    unfold mOp
    simp only [hi, hx', if_true]
    exact .inr ⟨hw, hr⟩
  unfold guardOf at hg
  unfold regM at h
  split at hg
  · rename_i hgu
    simp at hg; subst hg
    exact last_mOp hi h1 hx hc (by simp [wantD, hgu]) h
  · rename_i j want hgu
    split at hg
    · rename_i t ht
      simp at hg; subst hg
      simp only at h
      split at h
      · rename_i b hb
        have hwd : wantD ops E o = some (b == want) := by simp [wantD, hgu, ht, hb]
        by_cases hbw : b = want
        · subst hbw
          have := h.1 rfl
          rw [put_same hb] at this
          exact last_mOp hi h1 hx hc (by rw [hwd]; simp) this
        · have hb2 : b = !want := by cases b <;> cases want <;> simp_all
          have := h.2 hb2
          rw [← hb2, put_same hb] at this
          have hf : (b == want) = false := by rw [hb2]; cases want <;> rfl
          exact skip (by rw [hwd, hf]) this
      · rename_i hb
        exact skip (by simp [wantD, hgu, ht, hb]) h
      · exact h.elim
    · simp at hg

theorem orL_sound {Q : Env → Store → Prop} {E : Env} {S : Store} {f : Nat → Option RT} : ∀ {l : List Nat} {t : RT}, orL (l.map f) = some t → regM P cf SF t E S Q →
    ∀ i ∈ l, ∃ t', f i = some t' ∧ regM P cf SF t' E S Q
  | [], _, _, _, i, hi => by cases hi
  | [x], t, h, hr, i, hi => by
    simp at hi; subst hi
    simp only [List.map_cons, List.map_nil, orL] at h
    exact ⟨t, h, hr⟩
  | x :: y :: xs, t, h, hr, i, hi => by
    simp only [List.map_cons, orL] at h
    split at h
    · rename_i a b h1 h2
      simp at h; subst h
      rcases List.mem_cons.1 hi with rfl | hi'
      · exact ⟨a, h1, hr.1⟩
      · exact orL_sound (l := y :: xs) h2 hr.2 i hi'
    · simp at h

theorem regM_any {wd : Nat} {Q : Env → Store → Prop} : ∀ (fuel : Nat) (listed : Array Bool) (t : RT) (E : Env) (S : Store), greedyT P cf wd md ops fuel listed = some t →
    regM P cf SF t E S Q → wpAnyM P cf SF md ops Q fuel listed E S
  | 0, listed, t, E, S, hg, h => by
    simp only [greedyT] at hg
    split at hg <;> simp at hg
    rename_i h0
    subst hg
    exact ⟨by simpa using h0, h⟩
  | fuel + 1, listed, t, E, S, hg, h => by
    simp only [greedyT] at hg
    split at hg
    · rename_i i hi
      have hmem := List.mem_of_find?_eq_some hi
      have hp := List.find?_some hi
      split at hg
      · rename_i hfree
        obtain ⟨o, so, g, r, k1, k2, k3, k4, k5⟩ := mkRT_some hg
        simp only [k1, Bool.not_eq_true'] at hp
        rcases k5 with k5 | ⟨_, _, k6, _⟩
        rotate_left
        · simp [xOp, k2, k6] at hp
        subst k5
        rcases regM_step (md := md) k1 k2 k3 h with ⟨hx, _⟩ | ⟨_, d, hy, hK⟩
        · rw [hx] at hp; cases hp
        · exact wpAnyM_first k1 hp fuel listed E S (Region.free_spec k1 hfree) hmem hy (regM_any fuel _ r _ S k4 hK)
      · simp at hg
    · rename_i hnone
      split at hg
      · refine ⟨fun h0 => ?_, fun i hi => ?_⟩
        · rw [h0] at hg
          simp [orL] at hg
          subst hg
          exact h
        · obtain ⟨t', h1, h2⟩ := orL_sound hg h i hi
          obtain ⟨o, so, g, r, k1, k2, k3, k4, k5⟩ := mkRT_some h1
          rcases k5 with k5 | ⟨k5, k6, k7, k8⟩
          rotate_left
          · subst k5 k6
            exact mOp_mono (fun E' S' h' => regM_any fuel _ .nil E' S' k4 h') (regM_last k1 k2 k3 k7 k8 h2)
          subst k5
          rcases regM_step (md := md) k1 k2 k3 h2 with ⟨hx, hK⟩ | ⟨hx, d, hy, hK⟩
          · exact mOp_mono (fun E' S' h' => regM_any fuel _ r E' S' k4 h') hK
          · exact mOp_f k1 hx hy (regM_any fuel _ r _ S k4 hK)
      · simp at hg

theorem mOp_sound {i : Nat} {K : Env → Store → Prop} {E : Env} {S : Store} {ρ : Rho} {I : Nat → Prop} {w : World} {a : Act} {Q' : Exit → Act → World → Prop} {K' : Act → World → Prop}
    (hN : ∀ o ∈ ops, ∀ d, o.dst = some d → d < N) (hs : St ρ I w S) (he : ER ρ I w a E) (ha : a.tmps.size = N) (hd : a.defers = []) (hk : k0 ≤ S.length) (hsub : Sub SF S)
    (h : mOp P cf SF md ops i K E S)
    (hK : ∀ E' S' ρ' I' w' a', K E' S' → St ρ' I' w' S' → ER ρ' I' w' a' E' → a'.tmps.size = N → a'.defers = [] → Ext k0 ρ I w ρ' I' w' → k0 ≤ S'.length → (closer md ops i = true ∨ Sub SF S') → K' a' w') : wpOp P ops Q' i K' a w := by
  unfold mOp at h
  unfold wpOp
  split
  · rename_i ho; simp only [ho] at h; exact hK _ _ _ _ _ _ h hs he ha hd (Ext.refl _ _ _ _) hk (.inr hsub)
  · rename_i o ho
    simp only [ho] at h
    have hNo : ∀ t, o.dst = some t → t < a.tmps.size := fun t ht => by rw [ha]; exact hN o (Array.mem_of_getElem? ho) t ht
    have skip : wantD ops E o = some false → K (put E o.dst .undef) S → _ := fun hw hr => by
      have := hK _ S ρ I w _ hr hs (he.put hNo (rd_undef.2 rfl)) (by rw [put_size]; exact ha) (by rw [put_defers]; exact hd) (Ext.refl _ _ _ _) hk (.inr hsub)
      exact this
    split at h
    · rcases h with ⟨hw, hop⟩ | ⟨hw, hr⟩
      · rw [wantD_sound hw he (by rw [ha]; exact hN)]
        simp only [if_true]
        refine .inl (hop ρ I w a _ _ hs (fun t _ => he t) fun u d ρ' I' w' S' hc hs' hu hx => ?_)
        have hx0 := hx.le hk
        exact hK _ S' ρ' I' w' _ hc.2 hs' ((he.tr (hx.tr (by rw [hs.len]; exact Nat.le_refl _))).put hNo hu) (by rw [put_size]; exact ha) (by rw [put_defers]; exact hd) hx0 (kept_of hs hs' hx0 hk) hc.1
      · rw [wantD_sound hw he (by rw [ha]; exact hN)]
        simp only [Bool.false_eq_true, if_false]
        exact skip hw hr
    · obtain ⟨d, hy, hr⟩ := h
      rcases hy with ⟨hw, hop⟩ | ⟨hw, rfl⟩
      · rw [wantD_sound hw he (by rw [ha]; exact hN)]
        simp only [if_true]
        have hsr : StR ρ I w SF := hsub.str hs.toStR
        refine .inl (hop ρ I w a _ _ hsr (fun t _ => he t) fun u I' w' hg hu => ?_)
        exact hK _ S ρ I' w' _ hr (hs.grow hg) ((he.grow hs hg).put hNo hu) (by rw [put_size]; exact ha) (by rw [put_defers]; exact hd) (hg.ext' hs) hk (.inr hsub)
      · rw [wantD_sound hw he (by rw [ha]; exact hN)]
        simp only [Bool.false_eq_true, if_false]
        exact skip hw hr

theorem wpAny_of_M {Q : Env → Store → Prop} {Q' : Exit → Act → World → Prop} (hN : ∀ o ∈ ops, ∀ d, o.dst = some d → d < N) :
    ∀ (fuel : Nat) (listed : Array Bool) (E : Env) (S : Store) (ρ : Rho) (I : Nat → Prop) (w : World) (a : Act), St ρ I w S → ER ρ I w a E → a.tmps.size = N → a.defers = [] → k0 ≤ S.length → Sub SF S → Closed md ops listed →
      (∀ a' w', EndS k0 ρ I w N Q a' w' → Q' .normal a' w') →
      wpAnyM P cf SF md ops Q fuel listed E S → wpAny P md ops Q' fuel listed a w
  | 0, _, E, S, ρ, I, w, a, hs, he, ha, hd, _, _, _, hQ, h => ⟨h.1, hQ a w ⟨E, S, ρ, I, h.2, hs, he, ha, hd, Ext.refl _ _ _ _⟩⟩
  | fuel + 1, listed, E, S, ρ, I, w, a, hs, he, ha, hd, hk, hsub, hcl, hQ, h =>
    ⟨fun h0 => hQ a w ⟨E, S, ρ, I, h.1 h0, hs, he, ha, hd, Ext.refl _ _ _ _⟩, fun i hi =>
      mOp_sound (k0 := k0) hN hs he ha hd hk hsub (h.2 i hi) fun E' S' ρ' I' w' a' hE hs' he' ha' hd' hx hk' hsub' => by
        rcases hsub' with hz | hsub'
        · have h0 := closer_end hz hcl hi
          have hq : ∀ (f : Nat), wpAnyM P cf SF md ops Q f (listed.setIfInBounds i true) E' S' → wpAny P md ops Q' f (listed.setIfInBounds i true) a' w' := fun f hf => by
            cases f with
            | zero => exact ⟨h0, hQ a' w' ⟨E', S', ρ', I', hf.2, hs', he', ha', hd', hx⟩⟩
            | succ f => exact ⟨fun _ => hQ a' w' ⟨E', S', ρ', I', hf.1 h0, hs', he', ha', hd', hx⟩, fun j hj => by rw [h0] at hj; cases hj⟩
          exact hq fuel hE
        · exact wpAny_of_M hN fuel _ E' S' ρ' I' w' a' hs' he' ha' hd' hk' hsub' (closed_set hcl hi) (fun a'' w'' h'' => hQ a'' w'' (h''.trans hx)) hE⟩

end reg
end Go.V

namespace Go.V

/-! CODE -/
def slimMode (P : Program) (ops : Array Oper) (m : Nat) : Option (Nat × RT) :=
  match m with
  | 1 => match slimFrees P ops ops.toList with
    | some l => if Region.lexB .any ops = true then some (1, .ofL l) else none
    | none => none
  | 2 => (greedyT P .w 1 .any ops ops.size (Array.replicate ops.size false)).map fun t => (2, t)
  | 3 => (greedyT P .p 1 .any ops ops.size (Array.replicate ops.size false)).map fun t => (3, t)
  | 4 => (greedyT P .w 4 .any ops ops.size (Array.replicate ops.size false)).map fun t => (2, t)
  | 5 => (greedyT P .p 4 .any ops ops.size (Array.replicate ops.size false)).map fun t => (3, t)
  | 6 => (greedyT P .l 1 .any ops ops.size (Array.replicate ops.size false)).map fun t => (6, t)
  | 7 => (greedyT P .l 4 .any ops ops.size (Array.replicate ops.size false)).map fun t => (6, t)
  | _ => none
def slimAuto (P : Program) (ops : Array Oper) : Option (Nat × RT) :=
  match if ops.any (xOp P .w) then slimMode P ops 2 else none with
  | some r => some r
  | none => match slimMode P ops 1 with
    | some r => some r
    | none => match slimMode P ops 3 with
      | some r => some r
      | none => slimMode P ops 4
def slimReg (P : Program) (ops : Array Oper) (draw : Bool) (hint : Nat) : Option SCode :=
  if draw = false then (slimEffs P ops ops.toList).map fun l => .reg 0 (.ofL l)
  else (if hint = 0 then slimAuto P ops else slimMode P ops hint).map fun x => .reg x.1 x.2

def RegOK (P : Program) (ops : Array Oper) (draw : Bool) (m : Nat) (t : RT) : Prop :=
  (m = 0 ∧ draw = false ∧ ∃ l, t = .ofL l ∧ slimEffs P ops ops.toList = some l) ∨ (m = 1 ∧ draw = true ∧ (∃ l, t = .ofL l ∧ slimFrees P ops ops.toList = some l) ∧ Region.lexB .any ops = true) ∨
  (m = 2 ∧ draw = true ∧ ∃ wd, greedyT P .w wd .any ops ops.size (Array.replicate ops.size false) = some t) ∨
  (m = 3 ∧ draw = true ∧ ∃ wd, greedyT P .p wd .any ops ops.size (Array.replicate ops.size false) = some t) ∨
  (m = 6 ∧ draw = true ∧ ∃ wd, greedyT P .l wd .any ops ops.size (Array.replicate ops.size false) = some t)
theorem slimMode_ok {P : Program} {ops : Array Oper} {m m' : Nat} {t : RT} (h : slimMode P ops m = some (m', t)) : RegOK P ops true m' t := by
  unfold slimMode at h
  split at h
  · split at h
    · rename_i l hl
      split at h <;> simp at h
      rename_i hb
      obtain ⟨rfl, rfl⟩ := h
      exact .inr (.inl ⟨rfl, rfl, ⟨l, rfl, hl⟩, hb⟩)
    · simp at h
  · simp at h; obtain ⟨h1, rfl⟩ := h; exact .inr (.inr (.inl ⟨rfl, rfl, 1, h1⟩))
  · simp at h; obtain ⟨h1, rfl⟩ := h; exact .inr (.inr (.inr (.inl ⟨rfl, rfl, 1, h1⟩)))
  · simp at h; obtain ⟨h1, rfl⟩ := h; exact .inr (.inr (.inl ⟨rfl, rfl, 4, h1⟩))
  · simp at h; obtain ⟨h1, rfl⟩ := h; exact .inr (.inr (.inr (.inl ⟨rfl, rfl, 4, h1⟩)))
  · simp at h; obtain ⟨h1, rfl⟩ := h; exact .inr (.inr (.inr (.inr ⟨rfl, rfl, 1, h1⟩)))
  · simp at h; obtain ⟨h1, rfl⟩ := h; exact .inr (.inr (.inr (.inr ⟨rfl, rfl, 4, h1⟩)))
  · simp at h
theorem slimAuto_ok {P : Program} {ops : Array Oper} {m' : Nat} {t : RT} (h : slimAuto P ops = some (m', t)) : RegOK P ops true m' t := by
  unfold slimAuto at h
  split at h
  · rename_i r hr
    simp at h; subst h
    split at hr
    · exact slimMode_ok hr
    · simp at hr
  · split at h
    · rename_i r hr
      simp at h; subst h
      exact slimMode_ok hr
    · split at h
      · rename_i r hr
        simp at h; subst h
        exact slimMode_ok hr
      · exact slimMode_ok h
theorem slimReg_ok {P : Program} {ops : Array Oper} {draw : Bool} {hint : Nat} {sc : SCode} (h : slimReg P ops draw hint = some sc) : ∃ m l, sc = .reg m l ∧ RegOK P ops draw m l := by
  unfold slimReg at h
  split at h
  · rename_i hd
    obtain ⟨l, h1, h2⟩ := Option.map_eq_some_iff.1 h
    exact ⟨0, _, h2.symm, .inl ⟨rfl, hd, l, rfl, h1⟩⟩
  · rename_i hd
    have hd' : draw = true := by simpa using hd
    subst hd'
    obtain ⟨⟨m, t⟩, h1, h2⟩ := Option.map_eq_some_iff.1 h
    refine ⟨m, t, h2.symm, ?_⟩
    split at h1
    · exact slimAuto_ok h1
    · exact slimMode_ok h1

def hintOf : List (Nat × Nat) → Nat → Nat
  | [], _ => 0
  | (i, m) :: r, id => if i = id then m else hintOf r id

def slimC (P : Program) (N : Nat) (H : List (Nat × Nat)) : Code → Option SCode
  | .skip => some .skip
  | .region id ops draw => if dstsOK N ops then slimReg P ops draw (hintOf H id) else none
  | .seq a b => match slimC P N H a, slimC P N H b with
    | some a, some b => some (.seq a b)
    | _, _ => none
  | .cond c a b => match dOpd c, slimC P N H a, slimC P N H b with
    | some c, some a, some b => some (.cond c a b)
    | _, _, _ => none
  | .block id c => (slimC P N H c).map fun c => .block id c
  | .loop c => (slimC P N H c).map fun c => .loop c
  | .exit id => some (.exit id)
  | .ret => some .ret
  | _ => none

abbrev KK := Exit → Env → Store → Prop

def VW (P : Program) (N k0 : Nat) (c : Code) (K : KK) (E : Env) (S : Store) : Prop :=
  ∀ (ρ : Rho) (I : Nat → Prop) (w : World) (a : Act), St ρ I w S → ER ρ I w a E → a.tmps.size = N → a.defers = [] → k0 ≤ S.length → c.wp P (fun x a' w' => EndS k0 ρ I w N (K x) a' w') a w

def VS (P : Program) (N k0 : Nat) (sc : SCode) (K : KK) (E : Env) (S : Store) : Prop := ∀ H c, slimC P N H c = some sc → VW P N k0 c K E S

def Bd (k0 : Nat) (E : Env) (S : Store) (R : Env → Store → Prop) : Prop :=
  ∀ (ρ : Rho) (I : Nat → Prop) (w : World) (a : Act), St ρ I w S → ER ρ I w a E → k0 ≤ S.length → ∃ E' S' ρ' I', R E' S' ∧ St ρ' I' w S' ∧ ER ρ' I' w a E' ∧ Ext k0 ρ I w ρ' I' w

section rules
variable {P : Program} {N k0 : Nat} {K : KK} {E : Env} {S : Store}

theorem VS_bd {sc : SCode} (h : Bd k0 E S (VS P N k0 sc K)) : VS P N k0 sc K E S   := fun H c hc ρ I w a hs he ha hd hk => by
  obtain ⟨E', S', ρ', I', h1, h2, h3, h4⟩ := h ρ I w a hs he hk
  exact wp_mono (h1 H c hc ρ' I' w a h2 h3 ha hd (kept_of hs h2 h4 hk)) fun x a' w' hx => hx.trans h4

theorem slimC_cases {H : List (Nat × Nat)} {c : Code} {sc : SCode} (h : slimC P N H c = some sc) :
    (c = .skip ∧ sc = .skip) ∨ (∃ id ops draw m l, c = .region id ops draw ∧ sc = .reg m l ∧ dstsOK N ops = true ∧ RegOK P ops draw m l) ∨
    (∃ a b a' b', c = .seq a b ∧ sc = .seq a' b' ∧ slimC P N H a = some a' ∧ slimC P N H b = some b') ∨
    (∃ x x' a b a' b', c = .cond x a b ∧ sc = .cond x' a' b' ∧ dOpd x = some x' ∧ slimC P N H a = some a' ∧ slimC P N H b = some b') ∨
    (∃ id a a', c = .block id a ∧ sc = .block id a' ∧ slimC P N H a = some a') ∨
    (∃ a a', c = .loop a ∧ sc = .loop a' ∧ slimC P N H a = some a') ∨ (∃ id, c = .exit id ∧ sc = .exit id) ∨ (c = .ret ∧ sc = .ret) := by
  cases c with
  | skip => simp [slimC] at h; exact .inl ⟨rfl, h.symm⟩
  | region id ops draw =>
    simp only [slimC] at h
    split at h
    · rename_i hN
      obtain ⟨m, l, rfl, h1⟩ := slimReg_ok h
      exact .inr (.inl ⟨id, ops, draw, m, l, rfl, rfl, hN, h1⟩)
    · simp at h
  | seq a b =>
    simp only [slimC] at h
    split at h <;> simp at h
    rename_i a' b' h1 h2
    exact .inr (.inr (.inl ⟨a, b, a', b', rfl, h.symm, h1, h2⟩))
  | cond x a b =>
    simp only [slimC] at h
    split at h <;> simp at h
    rename_i x' a' b' h1 h2 h3
    exact .inr (.inr (.inr (.inl ⟨x, x', a, b, a', b', rfl, h.symm, h1, h2, h3⟩)))
  | block id a =>
    simp only [slimC] at h
    obtain ⟨l, hl, rfl⟩ := Option.map_eq_some_iff.1 h
    exact .inr (.inr (.inr (.inr (.inl ⟨id, a, l, rfl, rfl, hl⟩))))
  | loop a =>
    simp only [slimC] at h
    obtain ⟨l, hl, rfl⟩ := Option.map_eq_some_iff.1 h
    exact .inr (.inr (.inr (.inr (.inr (.inl ⟨a, l, rfl, rfl, hl⟩)))))
  | exit id => simp [slimC] at h; exact .inr (.inr (.inr (.inr (.inr (.inr (.inl ⟨id, rfl, h.symm⟩))))))
  | ret => simp [slimC] at h; exact .inr (.inr (.inr (.inr (.inr (.inr (.inr ⟨rfl, h.symm⟩))))))
  | _ => simp [slimC] at h

theorem VS_skip (h : K .normal E S) : VS P N k0 .skip K E S   := fun H c hc ρ I w a hs he ha hd hk => by
  rcases slimC_cases hc with ⟨rfl, h1⟩ | ⟨_, _, _, _, _, rfl, h1, _⟩ | ⟨_, _, _, _, rfl, h1, _⟩ | ⟨_, _, _, _, _, _, rfl, h1, _⟩ | ⟨_, _, _, rfl, h1, _⟩ | ⟨_, _, rfl, h1, _⟩ | ⟨id', rfl, h1⟩ | ⟨rfl, h1⟩ <;> simp at h1
  exact Go.wp_skip ⟨E, S, ρ, I, h, hs, he, ha, hd, Ext.refl _ _ _ _⟩

theorem VS_exit {id : Nat} (h : K (.exit id) E S) : VS P N k0 (.exit id) K E S   := fun H c hc ρ I w a hs he ha hd hk => by
  rcases slimC_cases hc with ⟨rfl, h1⟩ | ⟨_, _, _, _, _, rfl, h1, _⟩ | ⟨_, _, _, _, rfl, h1, _⟩ | ⟨_, _, _, _, _, _, rfl, h1, _⟩ | ⟨_, _, _, rfl, h1, _⟩ | ⟨_, _, rfl, h1, _⟩ | ⟨id', rfl, h1⟩ | ⟨rfl, h1⟩ <;> simp at h1
  subst h1
  exact Go.wp_exit ⟨E, S, ρ, I, h, hs, he, ha, hd, Ext.refl _ _ _ _⟩
theorem VS_ret (h : K .ret E S) : VS P N k0 .ret K E S   := fun H c hc ρ I w a hs he ha hd hk => by
  rcases slimC_cases hc with ⟨rfl, h1⟩ | ⟨_, _, _, _, _, rfl, h1, _⟩ | ⟨_, _, _, _, rfl, h1, _⟩ | ⟨_, _, _, _, _, _, rfl, h1, _⟩ | ⟨_, _, _, rfl, h1, _⟩ | ⟨_, _, rfl, h1, _⟩ | ⟨id', rfl, h1⟩ | ⟨rfl, h1⟩ <;> simp at h1
  exact Go.wp_ret ⟨E, S, ρ, I, h, hs, he, ha, hd, Ext.refl _ _ _ _⟩

def KThen (next : Env → Store → Prop) (K : KK) : KK
  | .normal, E, S => next E S
  | x, E, S => K x E S
def KBlock (id : Nat) (K : KK) : KK
  | .exit id', E, S => if id' = id then K .normal E S else K (.exit id') E S
  | x, E, S => K x E S

theorem VS_seq {a b : SCode} (h : VS P N k0 a (KThen (VS P N k0 b K) K) E S) : VS P N k0 (.seq a b) K E S   := fun H c hc ρ I w ac hs he ha hd hk => by
  rcases slimC_cases hc with ⟨rfl, h1⟩ | ⟨_, _, _, _, _, rfl, h1, _⟩ | ⟨ca, cb, a', b', rfl, h1, h2, h3⟩ | ⟨_, _, _, _, _, _, rfl, h1, _⟩ | ⟨_, _, _, rfl, h1, _⟩ | ⟨_, _, rfl, h1, _⟩ | ⟨id', rfl, h1⟩ | ⟨rfl, h1⟩ <;> simp at h1
  obtain ⟨rfl, rfl⟩ := h1
  refine Go.wp_seq (wp_mono (h H ca h2 ρ I w ac hs he ha hd hk) fun x a' w' hx => ?_)
  cases x with
  | normal =>
    obtain ⟨E2, S2, ρ2, I2, q1, q2, q3, q4, q5, q6⟩ := hx
    exact wp_mono (q1 H cb h3 ρ2 I2 w' a' q2 q3 q4 q5 (kept_of hs q2 q6 hk)) fun x a'' w'' hy => hy.trans q6
  | _ => exact hx

theorem VS_block {id : Nat} {b : SCode} (h : VS P N k0 b (KBlock id K) E S) : VS P N k0 (.block id b) K E S   := fun H c hc ρ I w ac hs he ha hd hk => by
  rcases slimC_cases hc with ⟨rfl, h1⟩ | ⟨_, _, _, _, _, rfl, h1, _⟩ | ⟨_, _, _, _, rfl, h1, _⟩ | ⟨_, _, _, _, _, _, rfl, h1, _⟩ | ⟨id', ca, a', rfl, h1, h2⟩ | ⟨_, _, rfl, h1, _⟩ | ⟨id', rfl, h1⟩ | ⟨rfl, h1⟩ <;> simp at h1
  obtain ⟨rfl, rfl⟩ := h1
  refine Go.wp_block (wp_mono (h H ca h2 ρ I w ac hs he ha hd hk) fun x a' w' hx => ?_)
  cases x with
  | exit id' =>
    have hk : KBlock id K (.exit id') = if id' = id then K .normal else K (.exit id') := by
      funext E S; simp only [KBlock]; split <;> rfl
    rw [hk] at hx
    simp only [Exit.inBlock]
    split
    · rename_i e; rw [if_pos e] at hx; exact hx
    · rename_i e; rw [if_neg e] at hx; exact hx
  | _ => exact hx

theorem VS_cond {x : Opd} {a b : SCode} {t : Bool} (hx : ev E x = .pv (.bool t)) (h1 : t = true → VS P N k0 a K E S) (h2 : t = false → VS P N k0 b K E S) : VS P N k0 (.cond x a b) K E S   := fun H c hc ρ I w ac hs he ha hd hk => by
  rcases slimC_cases hc with ⟨rfl, e1⟩ | ⟨_, _, _, _, _, rfl, e1, _⟩ | ⟨_, _, _, _, rfl, e1, _⟩ | ⟨xo, x', ca, cb, a', b', rfl, e1, e2, e3, e4⟩ | ⟨_, _, _, rfl, e1, _⟩ | ⟨_, _, rfl, e1, _⟩ | ⟨id', rfl, e1⟩ | ⟨rfl, e1⟩ <;> simp at e1
  obtain ⟨rfl, rfl, rfl⟩ := e1
  have g := dOpd_sound (a := ac) e2 fun t _ => he t
  rw [hx, rd_bool] at g
  exact Go.wp_cond_split g (fun ht => h1 ht H ca e3 ρ I w ac hs he ha hd hk) (fun ht => h2 ht H cb e4 ρ I w ac hs he ha hd hk)

theorem reg_inv {H : List (Nat × Nat)} {c : Code} {m : Nat} {l : RT} (hc : slimC P N H c = some (.reg m l)) : ∃ id ops draw, c = .region id ops draw ∧ dstsOK N ops = true ∧ RegOK P ops draw m l := by
  rcases slimC_cases hc with ⟨rfl, h1⟩ | ⟨id, ops, draw, m', l', rfl, h1, h2, h3⟩ | ⟨_, _, _, _, rfl, h1, _⟩ | ⟨_, _, _, _, _, _, rfl, h1, _⟩ | ⟨_, _, _, rfl, h1, _⟩ | ⟨_, _, rfl, h1, _⟩ | ⟨id', rfl, h1⟩ | ⟨rfl, h1⟩ <;> simp at h1
  obtain ⟨rfl, rfl⟩ := h1
  exact ⟨id, ops, draw, rfl, h2, h3⟩

theorem ofL_inj : ∀ {l l' : List SO}, RT.ofL l = RT.ofL l' → l = l'
  | [], [], _ => rfl
  | [], _ :: _, h => by simp [RT.ofL] at h
  | _ :: _, [], h => by simp [RT.ofL] at h
  | a :: l, b :: l', h => by
    simp only [RT.ofL, RT.op.injEq] at h
    rw [h.1, ofL_inj h.2]
theorem VS_free {l : List SO} (hm : P.follows .mixedOrders = true) (h : regF P S l E fun E => K .normal E S) : VS P N k0 (.reg 1 (.ofL l)) K E S := fun H c hc ρ I w ac hs he ha hd hk => by
  obtain ⟨id, ops, draw, rfl, h2, h3⟩ := reg_inv hc
  rcases h3 with ⟨h0, _⟩ | ⟨_, hdr, ⟨l', h6, h4⟩, h5⟩ | ⟨h0, _⟩ | ⟨h0, _⟩ | ⟨h0, _⟩ <;> try (cases h0; done)
  have := ofL_inj h6
  subst this
  exact wp_free (dstsOK_spec h2) hm (fun _ => h5) hs he ha (fun E' I' w' a' q1 q2 q3 q4 q5 q6 => ⟨E', S, ρ, I', q1, q2, q3, q4, by rw [q5]; exact hd, q6.ext' hs⟩) (regF_sound h4 h)

theorem VS_reg {l : List SO} (h : regS P l E S fun E S => K .normal E S) : VS P N k0 (.reg 0 (.ofL l)) K E S := fun H c hc ρ I w ac hs he ha hd hk => by
  obtain ⟨id, ops, draw, rfl, h2, h3⟩ := reg_inv hc
  rcases h3 with ⟨_, hdr, l', h6, h4⟩ | ⟨h0, _⟩ | ⟨h0, _⟩ | ⟨h0, _⟩ | ⟨h0, _⟩ <;> try (cases h0; done)
  have := ofL_inj h6
  subst this
  subst hdr
  refine wp_region ?_
  have := regS_sound (Q' := fun x a' w' => EndS k0 ρ I w N (K x) a' w') (k := 0) (dstsOK_spec h2) h4 h (by simp) hs he ha hd hk (fun a' w' hx => hx)
  simpa [List.range_eq_range'] using this

def modeOf : CF → Nat
  | .w => 2
  | .p => 3
  | .l => 6
theorem VS_mix {cf : CF} {t : RT} (SF : Store) (hm : P.follows .mixedOrders = true) (hsub : Sub SF S) (h : regM P cf SF t E S fun E S => K .normal E S) : VS P N k0 (.reg (modeOf cf) t) K E S := fun H c hc ρ I w ac hs he ha hd hk => by
  obtain ⟨id, ops, draw, rfl, h2, h3⟩ := reg_inv hc
  have h4 : draw = true ∧ ∃ wd, greedyT P cf wd .any ops ops.size (Array.replicate ops.size false) = some t := by
    cases cf <;> rcases h3 with ⟨h0, _⟩ | ⟨h0, _⟩ | ⟨h0, h4⟩ | ⟨h0, h4⟩ | ⟨h0, h4⟩ <;> first | exact h4 | (simp [modeOf] at h0)
  obtain ⟨hdr, wd, h4⟩ := h4
  subst hdr
  have hg : Grow I w I { w with drawn := w.drawn + 1 } := ⟨rfl, rfl, rfl, Nat.le_refl _, fun _ _ => rfl, fun _ h => h, fun _ h => .inl h⟩
  refine wp_region_any hm ?_
  exact wpAny_of_M (k0 := k0) (SF := SF) (md := .any) (cf := cf) (Q := fun E S => K .normal E S) (dstsOK_spec h2) ops.size _ E S ρ I { w with drawn := w.drawn + 1 } ac (hs.grow hg) (he.grow hs hg) ha hd hk hsub
    (fun q hq => by rw [Array.getD_eq_getD_getElem?, Array.getElem?_replicate] at hq; split at hq <;> simp at hq)
    (fun a' w' h' => h'.trans (hg.ext' hs)) (regM_any _ _ t E S h4 h)

theorem exists_min {p : Nat → Prop} (h : ∃ n, p n) : ∃ n, p n ∧ ∀ m, p m → n ≤ m := by
  obtain ⟨n, hn⟩ := h
  induction n using Nat.strongRecOn with
  | _ n ih =>
    by_cases hlt : ∃ m, m < n ∧ p m
    · obtain ⟨m, h1, h2⟩ := hlt; exact ih m h1 h2
    · exact ⟨n, hn, fun m hm => Nat.le_of_not_lt fun h => hlt ⟨m, h, hm⟩⟩

open Classical in
theorem VS_loop {b : SCode} (J : Nat → Env → Store → Prop) (h0 : ∃ n, J n E S)
    (hr : ∀ n E S, J n E S → VS P N k0 b (KThen (fun E' S' => Bd k0 E' S' fun E' S' => ∃ m, m < n ∧ J m E' S') K) E S) : VS P N k0 (.loop b) K E S   := fun H c hc ρ I w ac hs he ha hd hk => by
  rcases slimC_cases hc with ⟨rfl, h1⟩ | ⟨_, _, _, _, _, rfl, h1, _⟩ | ⟨_, _, _, _, rfl, h1, _⟩ | ⟨_, _, _, _, _, _, rfl, h1, _⟩ | ⟨_, _, _, rfl, h1, _⟩ | ⟨ca, b', rfl, h1, h2⟩ | ⟨id', rfl, h1⟩ | ⟨rfl, h1⟩ <;> simp at h1
  subst h1
  let R : Nat → Act → World → Prop := fun n a' w' => ∃ E' S' ρ' I', J n E' S' ∧ St ρ' I' w' S' ∧ ER ρ' I' w' a' E' ∧ a'.tmps.size = N ∧ a'.defers = [] ∧ Ext k0 ρ I w ρ' I' w'
  let mu : Act → World → Nat := fun a' w' => if h : ∃ n, R n a' w' then Classical.choose (exists_min h) else 0
  obtain ⟨n0, hn0⟩ := h0
  refine Go.wp_loop (fun a' w' => ∃ n, R n a' w') mu ⟨n0, E, S, ρ, I, hn0, hs, he, ha, hd, Ext.refl _ _ _ _⟩ fun a1 w1 hI => ?_
  have hmu : mu a1 w1 = Classical.choose (exists_min hI) := by simp only [mu]; rw [dif_pos hI]
  obtain ⟨E1, S1, ρ1, I1, j1, j2, j3, j4, j5, j6⟩ := (Classical.choose_spec (exists_min hI)).1
  refine wp_mono (hr _ E1 S1 j1 H ca h2 ρ1 I1 w1 a1 j2 j3 j4 j5 (kept_of hs j2 j6 hk)) fun x a2 w2 hx => ?_
  cases x with
  | normal =>
    obtain ⟨E2, S2, ρ2, I2, q1, q2, q3, q4, q5, q6⟩ := hx
    obtain ⟨E3, S3, ρ3, I3, ⟨m, hm, hJ⟩, r2, r3, r4⟩ := q1 ρ2 I2 w2 a2 q2 q3 (kept_of hs q2 (j6.trans q6) hk)
    have hR : R m a2 w2 := ⟨E3, S3, ρ3, I3, hJ, r2, r3, q4, q5, (j6.trans q6).trans r4⟩
    refine ⟨⟨m, hR⟩, ?_⟩
    have hex : ∃ n, R n a2 w2 := ⟨m, hR⟩
    have h3 : mu a2 w2 = Classical.choose (exists_min hex) := by simp only [mu]; rw [dif_pos hex]
    rw [hmu, h3]
    exact Nat.lt_of_le_of_lt ((Classical.choose_spec (exists_min hex)).2 m hR) hm
  | _ => exact hx.trans j6

end rules
end Go.V

namespace Go.V

/-! a part of the objects, numbered anew -/
def posOf : List Nat → Nat → Option Nat
  | [], _ => none
  | x :: xs, o => if x = o then some 0 else (posOf xs o).map (· + 1)
theorem posOf_some : ∀ {os : List Nat} {o k : Nat}, posOf os o = some k → os[k]? = some o
  | [], _, _, h => by simp [posOf] at h
  | x :: xs, o, k, h => by
    simp only [posOf] at h
    split at h
    · simp at h; subst h; simp_all
    · obtain ⟨j, h1, rfl⟩ := Option.map_eq_some_iff.1 h
      simpa using posOf_some h1
theorem posOf_none : ∀ {os : List Nat} {o : Nat}, posOf os o = none → o ∉ os
  | [], _, _ => by simp
  | x :: xs, o, h => by
    simp only [posOf] at h
    split at h
    · simp at h
    · rename_i hne
      simp at h
      have := posOf_none h
      simp only [List.mem_cons, not_or]
      exact ⟨fun e => hne e.symm, this⟩

def inv (os : List Nat) : D → D
  | .ptr o i j => match posOf os o with
    | some k => .ptr k i j
    | none => .any
  | .own o n => match posOf os o with
    | some k => .own k n
    | none => .any
  | .sub o off n cap => match posOf os o with
    | some k => .sub k off n cap
    | none => .any
  | d => d
def mpOb (m : D → D) (ob : Ob) : Ob := { ob with xs := ob.xs.map (mpS m) }
def subS (os : List Nat) (S : Store) : Store := os.map fun o => (S.getD o none).map (mpOb (inv os))
def subR (os : List Nat) (ρ : Rho) : Rho := os.map fun o => ρ.getD o none

section sub
variable {ρ : Rho} {I : Nat → Prop} {w : World} {S : Store} {os : List Nat}
theorem subR_get {k b sz : Nat} : (subR os ρ)[k]? = some (some (b, sz)) ↔ ∃ o, os[k]? = some o ∧ ρ[o]? = some (some (b, sz)) := by
  simp only [subR, List.getElem?_map, Option.map_eq_some_iff]
  constructor
  · rintro ⟨o, h1, h2⟩
    refine ⟨o, h1, ?_⟩
    rw [List.getD_eq_getElem?_getD] at h2
    cases h : ρ[o]? with
    | none => simp [h] at h2
    | some x => simp [h] at h2; rw [h2]
  · rintro ⟨o, h1, h2⟩
    exact ⟨o, h1, by rw [List.getD_eq_getElem?_getD, h2]; rfl⟩
theorem subS_get {k : Nat} {ob' : Ob} (h : (subS os S)[k]? = some (some ob')) : ∃ o ob, os[k]? = some o ∧ S[o]? = some (some ob) ∧ ob' = mpOb (inv os) ob := by
  simp only [subS, List.getElem?_map, Option.map_eq_some_iff] at h
  obtain ⟨o, h1, ob, h2, h3⟩ := h
  refine ⟨o, ob, h1, ?_, h3.symm⟩
  rw [List.getD_eq_getElem?_getD] at h2
  cases h : S[o]? with
  | none => simp [h] at h2
  | some x => simp [h] at h2; rw [h2]
theorem sub_mp : Mp (inv os) ρ I w (subR os ρ) I w where
  im := fun b hb => ⟨hb, rfl⟩
  ptr := fun v o i j h => by
    simp only [inv]
    split
    · rename_i k hk
      obtain ⟨b, sz, h1, h2⟩ := h
      exact ⟨⟨b, sz, subR_get.2 ⟨o, posOf_some hk, h1⟩, h2⟩, rfl⟩
    · exact ⟨trivial, rfl⟩
  own := fun v o n h => by
    simp only [inv]
    split
    · rename_i k hk
      obtain ⟨b, sz, cap, cs, E, h1, h2⟩ := h
      exact ⟨⟨b, sz, cap, cs, E, subR_get.2 ⟨o, posOf_some hk, h1⟩, h2⟩, rfl⟩
    · exact ⟨trivial, rfl⟩
  sub := fun v o f n c h => by
    simp only [inv]
    split
    · rename_i k hk
      obtain ⟨b, sz, cs, E, h1, h2⟩ := h
      exact ⟨⟨b, sz, cs, E, subR_get.2 ⟨o, posOf_some hk, h1⟩, h2⟩, rfl⟩
    · exact ⟨trivial, rfl⟩
theorem mpOb_ok {m : D → D} {ρ' : Rho} {I' : Nat → Prop} {w' : World} (t : Mp m ρ I w ρ' I' w') {b sz : Nat} {ob : Ob} (h : ObOK ρ I w b sz ob) (hb : w'.heap[b]? = w.heap[b]?) : ObOK ρ' I' w' b sz (mpOb m ob) := by
  obtain ⟨h1, cs, h2, h3, h4⟩ := h
  refine ⟨h1, cs, by rw [hb]; exact h2, by simpa [mpOb] using h3, fun i hi => ?_⟩
  simp only [mpOb, List.getElem_map]
  exact RDc.mp t (h4 i (by simpa [mpOb] using hi))
theorem sub_st (hs : St ρ I w S) (hnd : os.Nodup) : St (subR os ρ) I w (subS os S) where
  len := by simp [subR, subS]
  old := hs.old
  obs := fun k ob' h => by
    obtain ⟨o, ob, h1, h2, rfl⟩ := subS_get h
    obtain ⟨b, sz, h3, h4⟩ := hs.obs o ob h2
    exact ⟨b, sz, subR_get.2 ⟨o, h1, h3⟩, mpOb_ok sub_mp h4 rfl⟩
  lt := fun k b sz h => by
    obtain ⟨o, _, h1⟩ := subR_get.1 h
    exact hs.lt o b sz h1
  apart := fun k b sz ob' hS h => by
    obtain ⟨o, h1, h2⟩ := subR_get.1 h
    obtain ⟨o', ob, h3, h4, _⟩ := subS_get hS
    rw [h1] at h3; simp at h3; subst h3
    exact hs.apart o b sz ob h4 h2
  inj := fun k k' b sz sz' ob1 ob2 hS hS' h h' => by
    obtain ⟨o, h1, h2⟩ := subR_get.1 h
    obtain ⟨o', h1', h2'⟩ := subR_get.1 h'
    obtain ⟨q, ob, h3, h4, _⟩ := subS_get hS
    obtain ⟨q', ob', h3', h4', _⟩ := subS_get hS'
    rw [h1] at h3; simp at h3; subst h3
    rw [h1'] at h3'; simp at h3'; subst h3'
    have := hs.inj o o' b sz sz' ob ob' h4 h4' h2 h2'
    subst this
    exact (List.getElem?_inj (List.getElem?_eq_some_iff.1 h1).1 hnd).1 (h1.trans h1'.symm)
end sub

/-! the frame of a call -/
def extO (os : List Nat) (n k : Nat) : Nat := if h : k < os.length then os[k] else n + (k - os.length)
def fwd (os : List Nat) (n : Nat) : D → D
  | .ptr k i j => .ptr (extO os n k) i j
  | .own k m => .own (extO os n k) m
  | .sub k off m cap => .sub (extO os n k) off m cap
  | d => d
def mergeS (os : List Nat) (S S1 : Store) : Store :=
  ((List.range S.length).map fun x => match posOf os x with
    | some k => (S1.getD k none).map (mpOb (fwd os S.length))
    | none => S.getD x none) ++ (S1.drop os.length).map (Option.map (mpOb (fwd os S.length)))

theorem getD_some {S : Store} {o : Nat} {ob : Ob} (h : S.getD o none = some ob) : S[o]? = some (some ob) := by
  rw [List.getD_eq_getElem?_getD] at h
  cases h' : S[o]? with
  | none => simp [h'] at h
  | some x => simp [h'] at h; rw [h]

theorem mergeS_get {os : List Nat} {S S1 : Store} {x : Nat} {ob' : Ob} (h : (mergeS os S S1)[x]? = some (some ob')) :
    (∃ k ob1, x = extO os S.length k ∧ S1[k]? = some (some ob1) ∧ ob' = mpOb (fwd os S.length) ob1) ∨ (x < S.length ∧ x ∉ os ∧ S[x]? = some (some ob')) := by
  unfold mergeS at h
  rw [List.getElem?_append] at h
  split at h
  · rename_i hx
    simp only [List.length_map, List.length_range] at hx
    simp only [List.getElem?_map, List.getElem?_range hx, Option.map_some, Option.some.injEq] at h
    split at h
    · rename_i k hk
      simp only [Option.map_eq_some_iff] at h
      obtain ⟨ob1, h1, h2⟩ := h
      have := posOf_some hk
      obtain ⟨hlt, he⟩ := List.getElem?_eq_some_iff.1 this
      exact .inl ⟨k, ob1, by simp [extO, hlt, he], getD_some h1, h2.symm⟩
    · rename_i hk
      exact .inr ⟨hx, posOf_none hk, getD_some h⟩
  · rename_i hx
    simp only [List.length_map, List.length_range, Nat.not_lt] at hx
    simp only [List.length_map, List.length_range, List.getElem?_map, List.getElem?_drop, Option.map_eq_some_iff] at h
    obtain ⟨y, h1, ob1, h2, h3⟩ := h
    subst h2
    exact .inl ⟨os.length + (x - S.length), ob1, by unfold extO; rw [dif_neg (by omega)]; omega, h1, h3.symm⟩

theorem RDs.mp {m : D → D} {ρ ρ' : Rho} {I I' : Nat → Prop} {w w' : World} (t : Mp m ρ I w ρ' I' w') : ∀ {vs : List Value} {ds : List D}, RDs ρ I w vs ds → RDs ρ' I' w' vs (ds.map (mpD m))
  | [], [], _ => trivial
  | _ :: _, _ :: _, h => ⟨RD.mp t h.1, RDs.mp t h.2⟩
  | [], _ :: _, h => h.elim
  | _ :: _, [], h => h.elim

theorem CallS.frame {P : Program} {f : FuncId} {ds : List D} {S : Store} {c c1 : D → Store → Prop} (os : List Nat) (hnd : os.Nodup) (hlive : ∀ o ∈ os, ∃ ob, S[o]? = some (some ob))
    (h : CallS P f (ds.map (mpD (inv os))) (subS os S) c1) (hc : ∀ d S1, c1 d S1 → c (mpD (fwd os S.length) d) (mergeS os S S1)) : CallS P f ds S c := by
  intro ρ I w vs hs hv
  refine (h (subR os ρ) I w vs (sub_st hs hnd) (RDs.mp sub_mp hv)).mono ?_
  rintro e w' ⟨u, d, ρ1, I', S1, he, hc1, hs1, hu, hx⟩
  have hlt : ∀ o ∈ os, o < S.length := fun o ho => by obtain ⟨ob, h1⟩ := hlive o ho; exact (List.getElem?_eq_some_iff.1 h1).1
  have hkeep : os.length ≤ ρ1.length := by have := hx.kept; simp [subR, subS] at this; exact this
  have hsl : (subS os S).length = os.length := by simp [subS]
  -- what each object of the call was
  have hlv : ∀ k, k < os.length → ∃ (o : Nat) (ob : Ob) (b sz : Nat), os[k]? = some o ∧ S[o]? = some (some ob) ∧ ρ[o]? = some (some (b, sz)) ∧ (subR os ρ)[k]? = some (some (b, sz)) ∧ ρ1[k]? = some (some (b, sz)) := fun k hk => by
    obtain ⟨ob, h1⟩ := hlive _ (List.getElem_mem hk)
    obtain ⟨b, sz, h2, _⟩ := hs.obs _ ob h1
    have h3 : (subR os ρ)[k]? = some (some (b, sz)) := subR_get.2 ⟨_, List.getElem?_eq_getElem hk, h2⟩
    exact ⟨_, ob, b, sz, List.getElem?_eq_getElem hk, h1, h2, h3, (hx.fix k b sz (by rw [hsl]; exact hk) h3).1⟩
  let ρ' : Rho := ρ ++ ρ1.drop os.length
  have hold : ∀ (o : Nat) (x : Nat × Nat), ρ[o]? = some (some x) → ρ'[o]? = some (some x) := fun o x h1 => by
    simp only [ρ']; rw [List.getElem?_append_left (List.getElem?_eq_some_iff.1 h1).1]; exact h1
  have hfw : ∀ k b sz : Nat, ρ1[k]? = some (some (b, sz)) → ρ'[extO os S.length k]? = some (some (b, sz)) := fun k b sz h1 => by
    unfold extO
    split
    · rename_i hk
      obtain ⟨o, ob, b', sz', g1, g2, g3, g4, g5⟩ := hlv k hk
      rw [g5] at h1; simp at h1; obtain ⟨rfl, rfl⟩ := h1
      obtain ⟨_, g6⟩ := List.getElem?_eq_some_iff.1 g1
      rw [g6]
      exact hold o _ g3
    · rename_i hk
      simp only [ρ']
      rw [List.getElem?_append_right (by rw [hs.len]; omega), hs.len, List.getElem?_drop]
      rw [show os.length + (S.length + (k - os.length) - S.length) = k by omega]
      exact h1
  have hbl : ∀ o b sz : Nat, ρ[o]? = some (some (b, sz)) → ∀ (cs : Array Value) (E : TypeId), w.heap[b]? = some (Obj.cells cs E (0, 0)) → ∃ cs' : Array Value, w'.heap[b]? = some (Obj.cells cs' E (0, 0)) ∧ cs'.size = cs.size := fun o b sz ho cs E hcs => by
    by_cases hin : ∃ k sz' : Nat, (subR os ρ)[k]? = some (some (b, sz'))
    · obtain ⟨k, sz', hk⟩ := hin
      have hkl : k < (subS os S).length := by
        have := (List.getElem?_eq_some_iff.1 hk).1
        simpa [subR, subS] using this
      exact (hx.fix k b sz' hkl hk).2 cs E hcs
    · refine ⟨cs, ?_, rfl⟩
      rw [hx.block b (hs.lt o b sz ho) fun k sz' hk => hin ⟨k, sz', hk⟩]
      exact hcs
  have hout : ∀ (x : Nat) (ob : Ob) (b sz : Nat), S[x]? = some (some ob) → x ∉ os → ρ[x]? = some (some (b, sz)) → ∀ k sz' : Nat, (subR os ρ)[k]? ≠ some (some (b, sz')) := fun x ob b sz hS hn hρ k sz' hk => by
    obtain ⟨o, h1, h2⟩ := subR_get.1 hk
    obtain ⟨hk1, hk2⟩ := List.getElem?_eq_some_iff.1 h1
    have hmem : o ∈ os := hk2 ▸ List.getElem_mem hk1
    obtain ⟨ob', h3⟩ := hlive o hmem
    have := hs.inj x o b sz sz' ob ob' hS h3 hρ h2
    exact hn (this ▸ hmem)
  have tr : Tr ρ I w ρ' I' w' := ⟨hx.im, fun o b sz ho => ⟨hold o _ ho, hbl o b sz ho⟩⟩
  have mpF : Mp (fwd os S.length) ρ1 I' w' ρ' I' w' := {
    im := fun b hb => ⟨hb, rfl⟩
    ptr := fun v o i j hr => by
      obtain ⟨b, sz, h1, h2⟩ := hr
      exact ⟨⟨b, sz, hfw o b sz h1, h2⟩, rfl⟩
    own := fun v o n hr => by
      obtain ⟨b, sz, cap, cs, E, h1, h2⟩ := hr
      exact ⟨⟨b, sz, cap, cs, E, hfw o b sz h1, h2⟩, rfl⟩
    sub := fun v o f n c hr => by
      obtain ⟨b, sz, cs, E, h1, h2⟩ := hr
      exact ⟨⟨b, sz, cs, E, hfw o b sz h1, h2⟩, rfl⟩ }
  have ext : Ext S.length ρ I w ρ' I' w' := by
    refine tr.ext hx.os hx.tape hx.output hx.size (by simp [ρ']) (fun k hk hn => hx.block k hk fun o sz ho => ?_) (fun b hb => ?_) fun o b sz ho => ?_
    · obtain ⟨o', _, h2⟩ := subR_get.1 ho
      exact hn o' sz h2
    · rcases hx.inew b hb with h1 | h1 | ⟨o, sz, h1⟩
      · exact .inl h1
      · exact .inr (.inl h1)
      · obtain ⟨o', _, h2⟩ := subR_get.1 h1
        exact .inr (.inr ⟨o', sz, h2⟩)
    · simp only [ρ'] at ho
      rw [List.getElem?_append] at ho
      split at ho
      · exact .inl ⟨o, sz, ho⟩
      · rw [List.getElem?_drop] at ho
        rcases hx.rnew _ b sz ho with ⟨o', sz', h1⟩ | h1
        · obtain ⟨o'', _, h2⟩ := subR_get.1 h1
          exact .inl ⟨o'', sz', h2⟩
        · exact .inr h1
  have hml : (mergeS os S S1).length = S.length + (S1.length - os.length) := by simp [mergeS]
  refine ⟨u, _, ρ', I', _, he, hc d S1 hc1, ?_, RD.mp mpF hu, ext⟩
  -- what each live object is
  have cas : ∀ (x : Nat) (ob' : Ob) (b sz : Nat), (mergeS os S S1)[x]? = some (some ob') → ρ'[x]? = some (some (b, sz)) →
      (∃ (k : Nat) (ob1 : Ob), x = extO os S.length k ∧ S1[k]? = some (some ob1) ∧ ob' = mpOb (fwd os S.length) ob1 ∧ ρ1[k]? = some (some (b, sz))) ∨ (x ∉ os ∧ S[x]? = some (some ob') ∧ ρ[x]? = some (some (b, sz))) := fun x ob' b sz hS hρ => by
    rcases mergeS_get hS with ⟨k, ob1, rfl, h2, h3⟩ | ⟨h1, h2, h3⟩
    · obtain ⟨b1, sz1, h4, _⟩ := hs1.obs k ob1 h2
      have h5 := hfw k b1 sz1 h4
      rw [h5] at hρ; simp at hρ; obtain ⟨rfl, rfl⟩ := hρ
      exact .inl ⟨k, ob1, rfl, h2, h3, h4⟩
    · obtain ⟨b1, sz1, h4, _⟩ := hs.obs x ob' h3
      have h5 := hold x _ h4
      rw [h5] at hρ; simp at hρ; obtain ⟨rfl, rfl⟩ := hρ
      exact .inr ⟨h2, h3, h4⟩
  exact {
    len := by simp [ρ', hml, hs.len, hs1.len]
    old := hs1.old
    obs := fun x ob' hS => by
      rcases mergeS_get hS with ⟨k, ob1, rfl, h2, rfl⟩ | ⟨h1, h2, h3⟩
      · obtain ⟨b1, sz1, h4, h5⟩ := hs1.obs k ob1 h2
        exact ⟨b1, sz1, hfw k b1 sz1 h4, mpOb_ok mpF h5 rfl⟩
      · obtain ⟨b1, sz1, h4, h5, cs, h6, h7, h8⟩ := hs.obs x ob' h3
        refine ⟨b1, sz1, hold x _ h4, h5, cs, ?_, h7, fun i hi => (h8 i hi).tr tr⟩
        rw [hx.block b1 (hs.lt x b1 sz1 h4) (hout x ob' b1 sz1 h3 h2 h4)]
        exact h6
    lt := fun o b sz ho => by
      simp only [ρ'] at ho
      rw [List.getElem?_append] at ho
      split at ho
      · exact Nat.lt_of_lt_of_le (hs.lt o b sz ho) hx.size
      · rw [List.getElem?_drop] at ho
        exact hs1.lt _ b sz ho
    apart := fun x b sz ob' hS hρ => by
      rcases cas x ob' b sz hS hρ with ⟨k, ob1, rfl, h2, _, h3⟩ | ⟨h1, h2, h3⟩
      · exact hs1.apart k b sz ob1 h2 h3
      · intro hI
        rcases hx.inew b hI with h4 | h4 | ⟨o, sz', h4⟩
        · exact hs.apart x b sz ob' h2 h3 h4
        · have := hs.lt x b sz h3; omega
        · exact hout x ob' b sz h2 h1 h3 o sz' h4
    inj := fun x x' b sz sz' ob1 ob2 hS hS' hρ hρ' => by
      have mixed : ∀ (k : Nat) (obk : Ob) (x : Nat) (obx : Ob) (sz sz' : Nat), S1[k]? = some (some obk) → ρ1[k]? = some (some (b, sz)) → x ∉ os → S[x]? = some (some obx) → ρ[x]? = some (some (b, sz')) → False := fun k obk x obx sz sz' _ g2 g3 g4 g5 => by
        rcases hx.rnew k b sz g2 with ⟨o', sz'', g6⟩ | g6
        · exact hout x obx b sz' g4 g3 g5 o' sz'' g6
        · have := hs.lt x b sz' g5; omega
      rcases cas x ob1 b sz hS hρ with ⟨k, o1, rfl, h2, _, h3⟩ | ⟨h1, h2, h3⟩ <;> rcases cas x' ob2 b sz' hS' hρ' with ⟨k', o2, rfl, g2, _, g3⟩ | ⟨g1, g2, g3⟩
      · rw [hs1.inj k k' b sz sz' o1 o2 h2 g2 h3 g3]
      · exact (mixed k o1 x' ob2 sz sz' h2 h3 g1 g2 g3).elim
      · exact (mixed k' o2 x ob1 sz' sz g2 g3 h1 h2 h3).elim
      · exact hs.inj x x' b sz sz' ob1 ob2 h2 g2 h3 g3 }

end Go.V

namespace Go.V

def env : List (Nat × D) → Env
  | [], _ => .any
  | (t, d) :: L, i => match Nat.beq i t with
    | true => d
    | false => env L i
theorem env_cons (L : List (Nat × D)) (t i : Nat) (d : D) : env ((t, d) :: L) i = if i = t then d else env L i := by
  simp only [env]
  by_cases h : i = t
  · subst h; simp
  · have : Nat.beq i t = false := by cases hb : Nat.beq i t with
      | false => rfl
      | true => exact absurd (Nat.eq_of_beq_eq_true hb) h
    rw [this, if_neg h]
theorem put_env (L : List (Nat × D)) (t : Nat) (d : D) : put (env L) (some t) d = env ((t, d) :: L) := funext fun i => (env_cons L t i d).symm
def argL : Nat → List PV → List (Nat × D)
  | _, [] => []
  | k, p :: ps => (k, .pv p) :: argL (k + 1) ps

inductive SRes where
  | t (n : Nat)
  | c (a sz : Nat)
  deriving Inhabited

def slimRes (P : Program) : ResultVar → Option SRes
  | .tmp t => some (.t t)
  | .cell a T => if aggT P T = some true then (szT P T).map fun sz => .c a sz else none
def slimRess (P : Program) : List ResultVar → Option (List SRes)
  | [] => some []
  | r :: rs => match slimRes P r, slimRess P rs with
    | some x, some xs => some (x :: xs)
    | _, _ => none

def slimF (P : Program) (f : FuncId) (H : List (Nat × Nat) := []) : Option (Nat × SCode × List SRes) :=
  match P.funcs[f]? with
  | some fn => match fn.body with
    | some c => match slimC P fn.ntmps H c, slimRess P fn.results.toList with
      | some sc, some rs => some (fn.ntmps, sc, rs)
      | _, _ => none
    | none => none
  | none => none

def optMap (f : D → Option PV) : List D → Option (List PV)
  | [] => some []
  | d :: ds => match f d, optMap f ds with
    | some p, some ps => some (p :: ps)
    | _, _ => none
def toR : Nat → Store → D → Option PV
  | 0, _, _ => none
  | n + 1, S, d => match d with
    | .pv p => match p with
      | .tup _ => none
      | p => some p
    | .nils => some (.sl [])
    | .agg cs => (optMap (toR n S) cs).map .agg
    | .own o m => match S[o]? with
      | some (some ob) => if m ≤ ob.xs.length then (optMap (toR n S) (ob.xs.take m)).map .sl else none
      | _ => none
    | _ => none

def isAggD : D → Bool
  | .agg _ => true
  | .pv (.agg _) => true
  | _ => false
def headAgg : List D → Option D
  | d :: _ => if isAggD d then some d else none
  | [] => none

def resD (E : Env) (S : Store) : SRes → Option D
  | .t n => some (E n)
  | .c a sz => match E a with
    | .ptr o 0 0 => match S[o]? with
      | some (some ob) => if ob.sz = sz then headAgg ob.xs else none
      | _ => none
    | _ => none

def resPVs (E : Env) (S : Store) : List SRes → Option (List PV)
  | [] => some []
  | r :: rs => match resD E S r with
    | some d => match toR 5 S d, resPVs E S rs with
      | some p, some ps => some (p :: ps)
      | _, _ => none
    | none => none

def resPV (E : Env) (S : Store) (rs : List SRes) : Option PV :=
  match resPVs E S rs with
  | some [p] => some p
  | some ps => some (.tup ps)
  | none => none

def KRet (rs : List SRes) (Post : PV → Prop) : KK
  | .ret, E, S => Bd 0 E S fun E S => ∃ p, resPV E S rs = some p ∧ Post p
  | .normal, E, S => Bd 0 E S fun E S => ∃ p, resPV E S rs = some p ∧ Post p
  | _, _, _ => False

def isTupD : D → Bool
  | .tup _ => true
  | .pv (.tup _) => true
  | _ => false
def resDs (E : Env) (S : Store) : List SRes → Option (List D)
  | [] => some []
  | r :: rs => match resD E S r, resDs E S rs with
    | some d, some ds => if isTupD d then none else some (d :: ds)
    | _, _ => none
def resAll (E : Env) (S : Store) (rs : List SRes) : Option D :=
  match resDs E S rs with
  | some [d] => some d
  | some ds => some (.tup ds)
  | none => none
def KRetD (k0 : Nat) (rs : List SRes) (c : D → Store → Prop) : KK
  | .ret, E, S => Bd k0 E S fun E S => ∃ d, resAll E S rs = some d ∧ c d S
  | .normal, E, S => Bd k0 E S fun E S => ∃ d, resAll E S rs = some d ∧ c d S
  | _, _, _ => False

section toR
variable {ρ : Rho} {I : Nat → Prop} {w : World} {S : Store}
def allI (ρ : Rho) (I : Nat → Prop) : Nat → Prop := fun b => I b ∨ ∃ o sz : Nat, ρ[o]? = some (some (b, sz))

theorem rs_sound {n : Nat} (ih : ∀ {d : D} {p : PV} {vs : List Value}, toR n S d = some p → RDc ρ I w vs d → RC (allI ρ I) w vs p) :
    ∀ {ds : List D} {ps : List PV}, optMap (toR n S) ds = some ps → ps.length = ds.length ∧ ∀ i (h : i < ds.length) (h' : i < ps.length) (vs : List Value), RDc ρ I w vs ds[i] → RC (allI ρ I) w vs ps[i]
  | [], ps, h => by simp [optMap] at h; subst h; simp
  | d :: ds, ps, h => by
    simp only [optMap] at h
    split at h <;> simp at h
    rename_i p ps' h1 h2
    subst h
    obtain ⟨h3, h4⟩ := rs_sound ih h2
    refine ⟨by simp [h3], fun i hi hi' vs hv => ?_⟩
    cases i with
    | zero => exact ih h1 hv
    | succ i => exact h4 i (by simpa using hi) (by simpa using hi') vs hv

theorem rdc_of_r1 {v : Value} {d : D} (h : R1 ρ I w v d) (hd : ∀ cs, d ≠ .agg cs) : RDc ρ I w [v] d := by
  cases d with
  | agg cs => exact absurd rfl (hd cs)
  | pv p => exact h
  | _ => exact ⟨v, rfl, h⟩

theorem toR_sound (hs : St ρ I w S) : ∀ {n : Nat} {d : D} {p : PV} {vs : List Value}, toR n S d = some p → RDc ρ I w vs d → RC (allI ρ I) w vs p
  | 0, d, p, vs, h, _ => by simp [toR] at h
  | n + 1, d, p, vs, h, hr => by
    have IH := @toR_sound hs n
    cases d with
    | pv q =>
      have : q = p := by cases q <;> simp [toR] at h <;> exact h
      subst this
      exact RC.mono (fun b hb => .inl hb) (fun _ _ => rfl) hr
    | nils =>
      simp [toR] at h; subst h
      obtain ⟨v, rfl, a, rfl⟩ := hr
      exact .sl0 a 0 (Nat.zero_le _)
    | agg cs =>
      simp only [toR, Option.map_eq_some_iff] at h
      obtain ⟨ps, h1, rfl⟩ := h
      obtain ⟨h2, h3⟩ := rs_sound IH h1
      refine .agg vs ps (by rw [h2]; exact hr.1) fun i hi hi' => ?_
      have h4 := hr.2 i hi (by omega)
      refine h3 i (by omega) hi' _ (rdc_of_r1 h4 fun cs' e => ?_)
      rw [e] at h4
      exact h4.elim
    | own o m =>
      simp only [toR] at h
      split at h
      · rename_i ob hob
        split at h
        · rename_i hm
          obtain ⟨ps, h1, rfl⟩ := Option.map_eq_some_iff.1 h
          obtain ⟨h2, h3⟩ := rs_sound IH h1
          obtain ⟨v, rfl, hv⟩ := hr
          obtain ⟨b, sz, cap, cs, E, g1, rfl, g3, g4, g5, g6⟩ := hv
          obtain ⟨b', sz', k1, k2, cs', k3, k4, k5⟩ := hs.obs o ob hob
          rw [g1] at k1
          simp at k1
          obtain ⟨rfl, rfl⟩ := k1
          have hpl : ps.length = m := by rw [h2]; simp [hm]
          refine .sl ps b 0 cap sz m (fun i => (cs'.toList.drop (i * sz)).take sz) hpl.symm g3 g4 (.inr ⟨o, sz, g1⟩) (fun i hi => ?_) (fun i hi => ?_) (fun i hi => ?_)
          · have : (i + 1) * sz ≤ ob.xs.length * sz := Nat.mul_le_mul_right _ (by omega)
            rw [Nat.add_mul] at this
            simp; omega
          · intro j hj
            have hj' : j < sz ∧ i * sz + j < cs'.size := by simp at hj; omega
            simp only [World.cell?, k3, Option.isSome_none, Bool.false_eq_true, if_false, Nat.zero_add]
            rw [Array.getElem?_eq_getElem hj'.2]
            simp
          · have := k5 i (by omega)
            refine h3 i (by simp; omega) hi _ ?_
            simpa using this
        · simp at h
      · simp at h
    | _ => simp [toR] at h

theorem toR_rd (hs : St ρ I w S) {n : Nat} {d : D} {p : PV} {v : Value} (h : toR n S d = some p) (hr : RD ρ I w v d) : RD [] (allI ρ I) w v (.pv p) := by
  cases n with
  | zero => simp [toR] at h
  | succ n =>
    have single : ∀ d, (∀ cs, d ≠ .agg cs) → isAggP p = false → toR (n + 1) S d = some p → R1 ρ I w v d → RD [] (allI ρ I) w v (.pv p) := fun d hd hp h h1 =>
      (rd_pv hp).2 (toR_sound hs h (rdc_of_r1 h1 hd))
    cases d with
    | pv q =>
      have : q = p := by cases q <;> simp [toR] at h <;> exact h
      subst this
      have : RD [] I w v (.pv q) := rd_pv_rho hr
      exact RD.mono (I' := allI ρ I) (fun b hb => .inl hb) ⟨fun _ _ => rfl, fun o b sz ho => by simp at ho⟩ this
    | nils => exact single .nils (by simp) (by simp [toR] at h; subst h; rfl) h hr
    | agg cs =>
      obtain ⟨vs, rfl, h1⟩ := rd_dagg.1 hr
      have := toR_sound hs h (vs := vs) h1
      simp only [toR, Option.map_eq_some_iff] at h
      obtain ⟨ps, _, rfl⟩ := h
      exact rd_agg.2 ⟨vs, rfl, this⟩
    | own o m => exact single (.own o m) (by simp) (by simp only [toR] at h; split at h <;> (try split at h) <;> simp at h; obtain ⟨ps, _, rfl⟩ := h; rfl) h hr
    | _ => simp [toR] at h
end toR

theorem toR_tup {n : Nat} {S : Store} {d : D} {ps : List PV} (h : toR n S d = some (.tup ps)) : False := by
  cases n with
  | zero => simp [toR] at h
  | succ n =>
    cases d with
    | pv q => cases q <;> simp [toR] at h
    | own o m => simp only [toR] at h; split at h <;> (try split at h) <;> simp at h
    | _ => simp [toR] at h

theorem resD_sound {P : Program} {ρ : Rho} {I : Nat → Prop} {w : World} {S : Store} {a : Act} {E : Env} {r : ResultVar} {x : SRes} {d : D} (h : slimRes P r = some x) (hd : resD E S x = some d) (hs : St ρ I w S) (he : ER ρ I w a E) :
    ∃ u, RD ρ I w u d ∧ (match r with | .tmp t => (pure (a.tmps.getD t Go.undef) : Sem Value) | .cell c t => do loadVar t (← asAddr (a.tmps.getD c Go.undef))).run P w = .ok u w := by
  cases r with
  | tmp t =>
    simp [slimRes] at h; subst h
    simp [resD] at hd; subst hd
    exact ⟨_, he t, rfl⟩
  | cell c T =>
    simp only [slimRes] at h
    split at h
    · rename_i hagg
      obtain ⟨sz, hsz, rfl⟩ := Option.map_eq_some_iff.1 h
      simp only [resD] at hd
      split at hd
      · rename_i o e1
        split at hd
        · rename_i ob hob
          split at hd
          · rename_i hobs
            have hx : ∃ tl, ob.xs = d :: tl ∧ isAggD d = true := by cases hxs : ob.xs with
              | nil => rw [hxs] at hd; simp [headAgg] at hd
              | cons y tl => rw [hxs] at hd; simp only [headAgg] at hd; split at hd <;> simp at hd; subst hd; rename_i hy; exact ⟨tl, rfl, hy⟩
            obtain ⟨tl, hxs, hagd⟩ := hx
            have h1 := he c
            rw [e1, rd_ptr] at h1
            obtain ⟨b, sz', h2, h3⟩ := h1
            obtain ⟨b', sz'', h4, h5, cells, h6, h7, h8⟩ := hs.obs o ob hob
            rw [h2] at h4
            simp at h4
            obtain ⟨rfl, rfl⟩ := h4
            have hlen : 0 < ob.xs.length := by rw [hxs]; simp
            have h9 := h8 0 hlen
            have hx0 : ob.xs[0] = d := by simp [hxs]
            rw [hx0] at h9
            simp only [Nat.zero_mul, List.drop_zero] at h9
            have hszl : sz' ≤ cells.size := by
              have : 1 * sz' ≤ ob.xs.length * sz' := Nat.mul_le_mul_right _ hlen
              omega
            have hcell : CellsAt w b 0 (cells.toList.take sz') := by
              intro q hq
              have hq' : q < sz' ∧ q < cells.size := by simp at hq; omega
              simp only [World.cell?, h6, Option.isSome_none, Bool.false_eq_true, if_false, Nat.zero_add]
              rw [Array.getElem?_eq_getElem hq'.2]
              simp
            have hl : (cells.toList.take sz').length = sz' := by simp; omega
            have hrun := run_loadVar (P := P) hagg (by rw [hl, hsz]; congr 1; omega) hcell (by simp)
            refine ⟨.agg (cells.toList.take sz').toArray, ?_, ?_⟩
            · cases d with
              | agg cs => exact rd_dagg.2 ⟨_, rfl, h9⟩
              | pv p => cases p <;> first | (simp [isAggD] at hagd; done) | exact rd_agg.2 ⟨_, rfl, h9⟩
              | _ => simp [isAggD] at hagd
            · simp only [Nat.zero_mul, Nat.add_zero] at h3
              simp only [Sem.run_bind, h3, asAddr, Sem.run_pure, Result.andThen_ok, hrun, if_true]
          · simp at hd
        · simp at hd
      · simp at hd
    · simp at h

def resOne (tmps : Array Value) : ResultVar → Sem Value
  | .tmp t => pure (tmps.getD t Go.undef)
  | .cell a t => do loadVar t (← asAddr (tmps.getD a Go.undef))
theorem results_eq (fn : Func) (tmps : Array Value) : results fn tmps = (do let vs ← fn.results.mapM (resOne tmps); pure (if h : vs.size = 1 then vs[0] else .tuple vs)) := rfl

theorem ress_sound {P : Program} {ρ : Rho} {I : Nat → Prop} {w : World} {S : Store} {a : Act} {E : Env} (hs : St ρ I w S) (he : ER ρ I w a E) :
    ∀ {rs : List ResultVar} {xs : List SRes} {ps : List PV}, slimRess P rs = some xs → resPVs E S xs = some ps →
      ∃ us : List Value, us.length = ps.length ∧ (∀ i (h : i < us.length) (h' : i < ps.length), RD [] (allI ρ I) w us[i] (.pv ps[i]) ∧ ∀ qs, ps[i] ≠ .tup qs) ∧
        (rs.mapM (resOne a.tmps)).run P w = .ok us w
  | [], xs, ps, h, h2 => by simp [slimRess] at h; subst h; simp [resPVs] at h2; subst h2; exact ⟨[], rfl, by simp, rfl⟩
  | r :: rs, xs, ps, h, h2 => by
    simp only [slimRess] at h
    split at h <;> simp at h
    rename_i x xs' h3 h4
    subst h
    simp only [resPVs] at h2
    split at h2
    · rename_i d hd
      split at h2 <;> simp at h2
      rename_i p ps' h5 h6
      subst h2
      obtain ⟨u, g1, g2⟩ := resD_sound (P := P) h3 hd hs he
      obtain ⟨us, g3, g4, g5⟩ := ress_sound hs he h4 h6
      refine ⟨u :: us, by simp [g3], fun i hi hi' => ?_, ?_⟩
      · cases i with
        | zero => exact ⟨toR_rd hs h5 g1, fun qs e => by simp only [List.getElem_cons_zero] at e; subst e; exact toR_tup h5⟩
        | succ i => exact g4 i (by simpa using hi) (by simpa using hi')
      · rw [List.mapM_cons]
        have g2' : (resOne a.tmps r).run P w = .ok u w := by cases r <;> exact g2
        simp only [Sem.run_bind, g2', Result.andThen_ok, g5, Sem.run_pure]
    · simp at h2

theorem env_argL {I : Nat → Prop} {w : World} : ∀ {vs : List Value} {ps : List PV} {k : Nat} {a : Act}, RVs I w vs ps → (∀ i (h : i < vs.length), a.tmps.getD (k + i) Go.undef = vs[i]) → ER [] I w a (env (argL k ps))
  | [], [], k, a, _, _ => fun t => by simp [argL, env]; exact rd_any
  | v :: vs, p :: ps, k, a, h, ha => fun t => by
    simp only [argL, env_cons]
    split
    · rename_i e
      have := ha 0 (by simp)
      simp only [Nat.add_zero, List.getElem_cons_zero] at this
      rw [e, this]
      exact h.1
    · exact env_argL (k := k + 1) h.2 (fun i hi => by have := ha (i + 1) (by simpa using hi); rw [Nat.add_assoc, Nat.add_comm 1 i]; simpa using this) t
  | [], _ :: _, _, _, h, _ => h.elim
  | _ :: _, [], _, _, h, _ => h.elim

theorem RVs_len {I : Nat → Prop} {w : World} : ∀ {vs : List Value} {ps : List PV}, RVs I w vs ps → vs.length = ps.length
  | [], [], _ => rfl
  | _ :: vs, _ :: ps, h => by simp [RVs_len h.2]
  | [], _ :: _, h => h.elim
  | _ :: _, [], h => h.elim

theorem con_of_VS {P : Program} {f : FuncId} {N : Nat} {sc : SCode} {rs : List SRes} {ps : List PV} {Post : PV → Prop} {H : List (Nat × Nat)} (hf : slimF P f H = some (N, sc, rs)) (hn : ps.length ≤ N)
    (h : VS P N 0 sc (KRet rs Post) (env (argL 0 ps)) []) : PCon P f ps Post := by
  unfold slimF at hf
  split at hf
  · rename_i fn hfn
    split at hf
    · rename_i c hc
      split at hf <;> simp at hf
      rename_i sc' rs' h1 h2
      obtain ⟨e1, e2, e3⟩ := hf
      subst e1 e2 e3
      intro I w vs hI hv
      have hlen := RVs_len hv
      have hst : St [] I w [] := ⟨⟨hI, by simp⟩, rfl, by simp, by simp, by simp⟩
      refine calls_of_wp hfn hc ?_
      have hsz : (vs.toArray ++ Array.replicate (fn.ntmps - vs.toArray.size) Go.undef).size = fn.ntmps := by simp; omega
      have her : ER [] I w { tmps := vs.toArray ++ Array.replicate (fn.ntmps - vs.toArray.size) Go.undef, defers := [] } (env (argL 0 ps)) :=
        env_argL hv fun i hi => by
          simp only [Nat.zero_add, Array.getD_eq_getD_getElem?]
          rw [Array.getElem?_append_left (by simpa using hi)]
          simp [hi]
      refine wp_mono (h H c h1 [] I w _ hst her hsz rfl (Nat.zero_le _)) fun x a' w' hx => ?_
      have fin : ∀ E S, (∃ p, resPV E S rs' = some p ∧ Post p) → ∀ ρ' I', St ρ' I' w' S → ER ρ' I' w' a' E → Ext 0 [] I w ρ' I' w' →
          ∃ v, (results fn a'.tmps).run P w' = .ok v w' ∧ ∃ u p I', Ending.returned v = .returned u ∧ Post p ∧ Grow I w I' w' ∧ RD [] I' w' u (ofPV p) := by
        intro E S hp ρ' I' hs he hext
        obtain ⟨p, hp, hpost⟩ := hp
        unfold resPV at hp
        have hgrow : Grow I w (allI ρ' I') w' := {
          os := hext.os
          tape := hext.tape
          output := hext.output
          size := hext.size
          block := fun k hk => hext.block k hk (by simp)
          imono := fun b hb => .inl (hext.im b hb).1
          inew := fun b hb => by
            rcases hb with hb | ⟨o, sz, ho⟩
            · rcases hext.inew b hb with h1 | h1 | ⟨o, sz, h1⟩
              · exact .inl h1
              · exact .inr ⟨h1, hs.old b hb⟩
              · simp at h1
            · rcases hext.rnew o b sz ho with ⟨o', sz', h1⟩ | h1
              · simp at h1
              · exact .inr ⟨h1, hs.lt o b sz ho⟩ }
        have main : ∀ ps, resPVs E S rs' = some ps → ∃ us : List Value, us.length = ps.length ∧ (∀ i (h : i < us.length) (h' : i < ps.length), RD [] (allI ρ' I') w' us[i] (.pv ps[i]) ∧ ∀ qs, ps[i] ≠ .tup qs) ∧
            (results fn a'.tmps).run P w' = .ok (if h : us.toArray.size = 1 then us.toArray[0] else .tuple us.toArray) w' := fun ps h => by
          obtain ⟨us, g1, g2, g3⟩ := ress_sound hs he h2 h
          refine ⟨us, g1, g2, ?_⟩
          rw [results_eq, Array.mapM_eq_mapM_toList]
          simp only [Sem.run_bind, Sem.run_map, g3, Result.andThen_ok, Sem.run_pure]
        split at hp
        · rename_i q hq
          simp at hp; subst hp
          obtain ⟨us, g1, g2, g3⟩ := main _ hq
          match us, g1 with
          | [u], _ =>
            refine ⟨u, g3, u, q, _, rfl, hpost, hgrow, ?_⟩
            obtain ⟨g4, g5⟩ := g2 0 (by simp) (by simp)
            simp only [List.getElem_cons_zero] at g4 g5
            have : ofPV q = .pv q := by cases q <;> first | rfl | exact absurd rfl (g5 _)
            rw [this]
            exact g4
        · rename_i qs hne hq
          simp at hp; subst hp
          obtain ⟨us, g1, g2, g3⟩ := main _ hq
          have hne1 : ¬ us.toArray.size = 1 := by
            intro e
            match qs, g1 with
            | [q], _ => exact hne q rfl
            | [], g1 => simp at e; simp [e] at g1
            | _ :: _ :: _, g1 => simp at e; simp [e] at g1
          rw [dif_neg hne1] at g3
          refine ⟨_, g3, _, _, _, rfl, hpost, hgrow, ?_⟩
          refine ⟨us, rfl, by simpa using g1, fun i hi hi' => ?_⟩
          have hi2 : i < qs.length := by simpa using hi'
          obtain ⟨g4, g5⟩ := g2 i hi hi2
          simp only [List.getElem_map]
          generalize qs[i] = q at *
          cases q <;> first | exact g4 | exact absurd rfl (g5 _)
        · simp at hp
      obtain ⟨E', S', ρ', I', q1, q2, q3, q4, q5, q6⟩ := hx
      cases x with
      | normal =>
        obtain ⟨E2, S2, ρ2, I2, r1, r2, r3, r4⟩ := q1 ρ' I' w' a' q2 q3 (Nat.zero_le _)
        obtain ⟨v, h3, h4⟩ := fin E2 S2 r1 ρ2 I2 r2 r3 (q6.trans r4)
        exact ⟨q5, v, h3, h4⟩
      | ret =>
        obtain ⟨E2, S2, ρ2, I2, r1, r2, r3, r4⟩ := q1 ρ' I' w' a' q2 q3 (Nat.zero_le _)
        obtain ⟨v, h3, h4⟩ := fin E2 S2 r1 ρ2 I2 r2 r3 (q6.trans r4)
        exact ⟨q5, v, h3, h4⟩
      | _ => exact q1.elim
    · simp at hf
  · simp at hf


def argD : Nat → List D → List (Nat × D)
  | _, [] => []
  | k, p :: ps => (k, p) :: argD (k + 1) ps
theorem env_argD {ρ : Rho} {I : Nat → Prop} {w : World} : ∀ {vs : List Value} {ds : List D} {k : Nat} {a : Act}, RDs ρ I w vs ds → (∀ i (h : i < vs.length), a.tmps.getD (k + i) Go.undef = vs[i]) → ER ρ I w a (env (argD k ds))
  | [], [], k, a, _, _ => fun t => by simp [argD, env]; exact rd_any
  | v :: vs, p :: ps, k, a, h, ha => fun t => by
    simp only [argD, env_cons]
    split
    · rename_i e
      have := ha 0 (by simp)
      simp only [Nat.add_zero, List.getElem_cons_zero] at this
      rw [e, this]
      exact h.1
    · exact env_argD (k := k + 1) h.2 (fun i hi => by have := ha (i + 1) (by simpa using hi); rw [Nat.add_assoc, Nat.add_comm 1 i]; simpa using this) t
  | [], _ :: _, _, _, h, _ => h.elim
  | _ :: _, [], _, _, h, _ => h.elim
theorem RDs_len {ρ : Rho} {I : Nat → Prop} {w : World} : ∀ {vs : List Value} {ps : List D}, RDs ρ I w vs ps → vs.length = ps.length
  | [], [], _ => rfl
  | _ :: vs, _ :: ps, h => by simp [RDs_len h.2]
  | [], _ :: _, h => h.elim
  | _ :: _, [], h => h.elim

theorem rs_of_rd {ρ : Rho} {I : Nat → Prop} {w : World} {v : Value} {d : D} (h : RD ρ I w v d) (hd : isTupD d = false) : RS ρ I w v d := by
  cases d <;> first | exact h | simp [isTupD] at hd

theorem resDs_sound {P : Program} {ρ : Rho} {I : Nat → Prop} {w : World} {S : Store} {a : Act} {E : Env} (hs : St ρ I w S) (he : ER ρ I w a E) :
    ∀ {rs : List ResultVar} {xs : List SRes} {ds : List D}, slimRess P rs = some xs → resDs E S xs = some ds →
      ∃ us : List Value, us.length = ds.length ∧ (∀ i (h : i < us.length) (h' : i < ds.length), RD ρ I w us[i] ds[i] ∧ isTupD ds[i] = false) ∧
        (rs.mapM (resOne a.tmps)).run P w = .ok us w
  | [], xs, ds, h, h2 => by simp [slimRess] at h; subst h; simp [resDs] at h2; subst h2; exact ⟨[], rfl, by simp, rfl⟩
  | r :: rs, xs, ds, h, h2 => by
    simp only [slimRess] at h
    split at h <;> simp at h
    rename_i x xs' h3 h4
    subst h
    simp only [resDs] at h2
    split at h2
    · rename_i d ds' hd h6
      split at h2 <;> simp at h2
      rename_i h5
      subst h2
      obtain ⟨u, g1, g2⟩ := resD_sound (P := P) h3 hd hs he
      obtain ⟨us, g3, g4, g5⟩ := resDs_sound hs he h4 h6
      refine ⟨u :: us, by simp [g3], fun i hi hi' => ?_, ?_⟩
      · cases i with
        | zero => exact ⟨g1, by simpa using h5⟩
        | succ i => exact g4 i (by simpa using hi) (by simpa using hi')
      · rw [List.mapM_cons]
        have g2' : (resOne a.tmps r).run P w = .ok u w := by cases r <;> exact g2
        simp only [Sem.run_bind, g2', Result.andThen_ok, g5, Sem.run_pure]
    · simp at h2

theorem callS_of_VS {P : Program} {f : FuncId} {N : Nat} {sc : SCode} {rs : List SRes} {ds : List D} {S : Store} {c : D → Store → Prop} {H : List (Nat × Nat)} (hf : slimF P f H = some (N, sc, rs)) (hn : ds.length ≤ N)
    (h : VS P N S.length sc (KRetD S.length rs c) (env (argD 0 ds)) S) : CallS P f ds S c := by
  unfold slimF at hf
  split at hf
  · rename_i fn hfn
    split at hf
    · rename_i cd hc
      split at hf <;> simp at hf
      rename_i sc' rs' h1 h2
      obtain ⟨e1, e2, e3⟩ := hf
      subst e1 e2 e3
      intro ρ I w vs hst hv
      have hlen := RDs_len hv
      refine calls_of_wp hfn hc ?_
      have hsz : (vs.toArray ++ Array.replicate (fn.ntmps - vs.toArray.size) Go.undef).size = fn.ntmps := by simp; omega
      have her : ER ρ I w { tmps := vs.toArray ++ Array.replicate (fn.ntmps - vs.toArray.size) Go.undef, defers := [] } (env (argD 0 ds)) :=
        env_argD hv fun i hi => by
          simp only [Nat.zero_add, Array.getD_eq_getD_getElem?]
          rw [Array.getElem?_append_left (by simpa using hi)]
          simp [hi]
      refine wp_mono (h H cd h1 ρ I w _ hst her hsz rfl (Nat.le_refl _)) fun x a' w' hx => ?_
      have fin : ∀ E S', (∃ d, resAll E S' rs' = some d ∧ c d S') → ∀ ρ' I', St ρ' I' w' S' → ER ρ' I' w' a' E → Ext S.length ρ I w ρ' I' w' →
          ∃ v, (results fn a'.tmps).run P w' = .ok v w' ∧ ∃ u d ρ' I' S', Ending.returned v = .returned u ∧ c d S' ∧ St ρ' I' w' S' ∧ RD ρ' I' w' u d ∧ Ext S.length ρ I w ρ' I' w' := by
        intro E S' hp ρ' I' hs he hext
        obtain ⟨d, hp, hpost⟩ := hp
        unfold resAll at hp
        have main : ∀ ds, resDs E S' rs' = some ds → ∃ us : List Value, us.length = ds.length ∧ (∀ i (h : i < us.length) (h' : i < ds.length), RD ρ' I' w' us[i] ds[i] ∧ isTupD ds[i] = false) ∧
            (results fn a'.tmps).run P w' = .ok (if h : us.toArray.size = 1 then us.toArray[0] else .tuple us.toArray) w' := fun ps h => by
          obtain ⟨us, g1, g2, g3⟩ := resDs_sound hs he h2 h
          refine ⟨us, g1, g2, ?_⟩
          rw [results_eq, Array.mapM_eq_mapM_toList]
          simp only [Sem.run_bind, Sem.run_map, g3, Result.andThen_ok, Sem.run_pure]
        split at hp
        · rename_i q hq
          simp at hp; subst hp
          obtain ⟨us, g1, g2, g3⟩ := main _ hq
          match us, g1 with
          | [u], _ =>
            refine ⟨u, g3, u, q, ρ', I', S', rfl, hpost, hs, ?_, hext⟩
            exact (g2 0 (by simp) (by simp)).1
        · rename_i qs hne hq
          simp at hp; subst hp
          obtain ⟨us, g1, g2, g3⟩ := main _ hq
          have hne1 : ¬ us.toArray.size = 1 := by
            intro e
            match qs, g1 with
            | [q], _ => exact hne q rfl
            | [], g1 => simp at e; simp [e] at g1
            | _ :: _ :: _, g1 => simp at e; simp [e] at g1
          rw [dif_neg hne1] at g3
          refine ⟨_, g3, _, _, ρ', I', S', rfl, hpost, hs, ?_, hext⟩
          exact ⟨us, rfl, g1, fun i hi hi' => by
            obtain ⟨g4, g5⟩ := g2 i hi hi'
            exact rs_of_rd g4 g5⟩
        · simp at hp
      obtain ⟨E', S', ρ', I', q1, q2, q3, q4, q5, q6⟩ := hx
      have hk := kept_of hst q2 q6 (Nat.le_refl _)
      cases x with
      | normal =>
        obtain ⟨E2, S2, ρ2, I2, r1, r2, r3, r4⟩ := q1 ρ' I' w' a' q2 q3 hk
        obtain ⟨v, h3, h4⟩ := fin E2 S2 r1 ρ2 I2 r2 r3 (q6.trans r4)
        exact ⟨q5, v, h3, h4⟩
      | ret =>
        obtain ⟨E2, S2, ρ2, I2, r1, r2, r3, r4⟩ := q1 ρ' I' w' a' q2 q3 hk
        obtain ⟨v, h3, h4⟩ := fin E2 S2 r1 ρ2 I2 r2 r3 (q6.trans r4)
        exact ⟨q5, v, h3, h4⟩
      | _ => exact q1.elim
    · simp at hf
  · simp at hf

/-! in between -/
section bd
variable {k0 : Nat} {E : Env} {S : Store} {R : Env → Store → Prop}
theorem Bd.now (h : R E S) : Bd k0 E S R := fun ρ I _ _ hs he _ => ⟨E, S, ρ, I, h, hs, he, Ext.refl _ _ _ _⟩
theorem Bd.then {R' : Env → Store → Prop} (h : Bd k0 E S R') (h2 : ∀ E S, R' E S → Bd k0 E S R) : Bd k0 E S R := fun ρ I w a hs he hk => by
  obtain ⟨E', S', ρ', I', h3, h4, h5, h6⟩ := h ρ I w a hs he hk
  obtain ⟨E2, S2, ρ2, I2, g3, g4, g5, g6⟩ := h2 E' S' h3 ρ' I' w a h4 h5 (kept_of hs h4 h6 hk)
  exact ⟨E2, S2, ρ2, I2, g3, g4, g5, h6.trans g6⟩
theorem Bd.len {t : Nat} {xs : List PV} (ht : E t = .pv (.sl xs)) (h : xs.length ≤ maxLen → Bd k0 E S R) : Bd k0 E S R := fun ρ I w a hs he hk => by
  have := he t
  rw [ht] at this
  obtain ⟨_, cap, _, h1, h2⟩ := rd_sl' this
  exact h (Nat.le_trans h1 h2) ρ I w a hs he hk
theorem env_er {ρ : Rho} {I : Nat → Prop} {w : World} {a : Act} (L : List (Nat × D)) (h : ∀ p ∈ L, RD ρ I w (a.tmps.getD p.1 Go.undef) p.2) : ER ρ I w a (env L) := fun t => by
  induction L with
  | nil => exact rd_any
  | cons p L ih =>
    obtain ⟨i, d⟩ := p
    simp only [env_cons]
    split
    · rename_i e
      rw [e]
      exact h (i, d) (by simp)
    · exact ih fun p hp => h p (by simp [hp])
theorem Bd.keep (L : List (Nat × D)) (h1 : ∀ p ∈ L, E p.1 = p.2) (h : R (env L) S) : Bd k0 E S R := fun ρ I w a hs he _ => by
  refine ⟨env L, S, ρ, I, h, hs, env_er L fun p hp => ?_, Ext.refl _ _ _ _⟩
  rw [← h1 p hp]
  exact he p.1
theorem Bd.ren (os : List Nat) (h0 : ∀ i, i < k0 → os[i]? = some i) (hnd : os.Nodup) (L : List (Nat × D)) (h1 : ∀ p ∈ L, mpD (inv os) (E p.1) = p.2) (h : R (env L) (subS os S)) : Bd k0 E S R := fun ρ I w a hs he _ => by
  refine ⟨env L, subS os S, subR os ρ, I, h, sub_st hs hnd, env_er L fun p hp => ?_, ?_⟩
  · rw [← h1 p hp]
    exact RD.mp sub_mp (he p.1)
  · exact {
      os := rfl
      tape := rfl
      output := rfl
      size := Nat.le_refl _
      kept := by
        have : k0 ≤ os.length := by
          rcases Nat.eq_zero_or_pos k0 with h | h
          · omega
          · have := (List.getElem?_eq_some_iff.1 (h0 (k0 - 1) (by omega))).1; omega
        simp [subR]; omega
      block := fun _ _ _ => rfl
      im := fun _ h => ⟨h, rfl⟩
      inew := fun _ h => .inl h
      rnew := fun o b sz ho => by
        obtain ⟨o', _, h2⟩ := subR_get.1 ho
        exact .inl ⟨o', sz, h2⟩
      fix := fun o b sz ho hr => ⟨subR_get.2 ⟨o, h0 o ho, hr⟩, fun cs _ hc => ⟨cs, hc, rfl⟩⟩ }

/-! an own object becomes pure -/
def frz (o : Nat) (ps : List PV) : D → D
  | .own o' n => if o' = o then (if n ≤ ps.length then .pv (.sl (ps.take n)) else .any) else .own o' n
  | .sub o' off n cap => if o' = o then .any else .sub o' off n cap
  | .ptr o' i j => if o' = o then (if j = 0 then (match ps[i]? with | some p => .pv (.con p) | none => .any) else .any) else .ptr o' i j
  | d => d
def frzS (o : Nat) (ps : List PV) (S : Store) : Store := (S.set o none).map (Option.map (mpOb (frz o ps)))

theorem toPVs_get : ∀ {ds : List D} {ps : List PV}, toPVs ds = some ps → ps.length = ds.length ∧ ∀ i (h : i < ds.length) (h' : i < ps.length), toPV ds[i] = some ps[i]
  | [], ps, h => by simp [toPVs] at h; subst h; simp
  | d :: ds, ps, h => by
    simp only [toPVs] at h
    split at h <;> simp at h
    rename_i p ps' h1 h2
    subst h
    obtain ⟨h3, h4⟩ := toPVs_get h2
    refine ⟨by simp [h3], fun i hi hi' => ?_⟩
    cases i with
    | zero => exact h1
    | succ i => exact h4 i (by simpa using hi) (by simpa using hi')

theorem toPV_rdc {ρ : Rho} {I : Nat → Prop} {w : World} {vs : List Value} {d : D} {p : PV} (h : toPV d = some p) (hd : RDc ρ I w vs d) : RC I w vs p := by
  cases d with
  | agg cs =>
    simp only [toPV, Option.map_eq_some_iff] at h
    obtain ⟨ps, h1, rfl⟩ := h
    obtain ⟨h2, h3⟩ := toPV1s_sound h1 hd.1 hd.2
    exact .agg vs ps h2 fun i hi hi' => h3 i hi hi'
  | pv q =>
    have hd' : RC I w vs q := hd
    cases q with
    | agg ps => simp [toPV] at h; subst h; exact hd'
    | tup ps => simp [toPV, toPV1, toPV0] at h
    | _ => simp [toPV, toPV1, toPV0] at h; subst h; exact hd'
  | tup ds => simp [toPV, toPV1, toPV0] at h
  | _ =>
    obtain ⟨v, rfl, h1⟩ := hd
    exact (toPV1_sound (d := _) (by exact h) h1).1

end bd

/-! a pure function on own slices: they are lent -/
def flatP : PV → Bool
  | .int _ _ => true
  | .bool _ => true
  | .nilp => true
  | .sl [] => true
  | _ => false
def flatS : PV → Bool
  | .agg cs => cs.all flatP
  | p => flatP p
def flatR : PV → Bool
  | .tup ps => ps.all flatS
  | p => flatS p
theorem flatP_rc {I I' : Nat → Prop} {w : World} {vs : List Value} {p : PV} (h : RC I w vs p) (hp : flatP p = true) : RC I' w vs p := by
  cases h with
  | int k n => exact .int k n
  | bool b => exact .bool b
  | nilp => exact .nilp
  | sl0 a cap h => exact .sl0 a cap h
  | sl xs b off cap sz n vs hn h1 h2 h3 h4 h5 h6 =>
    cases xs with
    | nil => simp at hn; subst hn; exact .sl0 _ cap h2
    | cons x xs => simp [flatP] at hp
  | _ => simp [flatP] at hp
theorem flatA_rc {I I' : Nat → Prop} {w : World} {vs : List Value} {cs : List PV} (h : RC I w vs (.agg cs)) (hp : cs.all flatP = true) : RC I' w vs (.agg cs) := by
  obtain ⟨h1, h2⟩ := rc_agg h
  exact .agg vs cs h1 fun i hi hi' => flatP_rc (h2 i hi hi') (List.all_eq_true.1 hp _ (List.getElem_mem hi'))
theorem flat_rs {I I' : Nat → Prop} {w : World} {v : Value} {p : PV} (h : RS [] I w v (.pv p)) (hp : flatS p = true) : RS [] I' w v (.pv p) := by
  cases p with
  | agg cs => obtain ⟨vs, h1, h2⟩ := h; exact ⟨vs, h1, flatA_rc h2 hp⟩
  | _ => exact flatP_rc (I := I) h hp
theorem flat_rd {I I' : Nat → Prop} {w : World} {v : Value} {p : PV} (h : RD [] I w v (ofPV p)) (hp : flatR p = true) : RD [] I' w v (ofPV p) := by
  cases p with
  | tup ps =>
    obtain ⟨vs, h1, h2, h3⟩ := h
    refine ⟨vs, h1, h2, fun i hi hi' => ?_⟩
    have := h3 i hi hi'
    simp only [List.getElem_map] at this ⊢
    exact flat_rs this (List.all_eq_true.1 hp _ (List.getElem_mem _))
  | agg cs => exact flat_rs (p := .agg cs) h hp
  | int k n => exact flat_rs (p := .int k n) h hp
  | bool b => exact flat_rs (p := .bool b) h hp
  | nilp => exact flat_rs (p := .nilp) h hp
  | sl xs => exact flat_rs (p := .sl xs) h hp
  | _ => simp [flatR, flatS, flatP] at hp

def toRs (n : Nat) (S : Store) : List D → Option (List PV) := optMap (toR n S)
theorem toRs_sound {ρ : Rho} {I : Nat → Prop} {w : World} {S : Store} (hs : St ρ I w S) : ∀ {ds : List D} {ps : List PV} {vs : List Value}, toRs 5 S ds = some ps → RDs ρ I w vs ds → RVs (allI ρ I) w vs ps
  | [], ps, [], h, _ => by simp [toRs, optMap] at h; subst h; trivial
  | d :: ds, ps, v :: vs, h, hr => by
    simp only [toRs, optMap] at h
    split at h <;> simp at h
    rename_i p ps' h1 h2
    subst h
    exact ⟨toR_rd hs h1 hr.1, toRs_sound hs h2 hr.2⟩
  | [], _, _ :: _, _, h => h.elim
  | _ :: _, _, [], _, h => h.elim

theorem CallS.lend {P : Program} {f : FuncId} {ds : List D} {ps : List PV} {S : Store} {c : D → Store → Prop} {Post : PV → Prop} (h : PCon P f ps Post) (hp : toRs 5 S ds = some ps) (hfl : ∀ p, Post p → flatR p = true)
    (hc : ∀ p, Post p → c (ofPV p) S) : CallS P f ds S c := fun ρ I w vs hs hv =>
  (h (allI ρ I) w vs (fun b hb => by
      rcases hb with hb | ⟨o, sz, ho⟩
      · exact hs.old b hb
      · exact hs.lt o b sz ho) (toRs_sound hs hp hv)).mono fun _ w' ⟨u, p, I', h1, h2, h3, h4⟩ => by
    have hg : Grow I w I w' := ⟨h3.os, h3.tape, h3.output, h3.size, h3.block, fun _ h => h, fun _ h => .inl h⟩
    exact ⟨u, ofPV p, ρ, I, S, h1, hc p h2, hs.grow hg, rd_rho (flat_rd h4 (hfl p h2)), hg.ext' hs⟩

end Go.V

namespace Go.V

/-! ## steps over slots as lists -/
inductive SM where
  | seq
  | mix (cf : CF) (SF : Store)
def isXm (sf : SM) (op : SOp) : Bool :=
  match sf with
  | .seq => isX op || isLit op
  | .mix cf _ => isXc cf op
def fs (sf : SM) (S : Store) : Store :=
  match sf with
  | .seq => S
  | .mix _ SF => SF
def sOK (sf : SM) (S : Store) : Prop :=
  match sf with
  | .seq => True
  | .mix _ SF => Sub SF S
def cOK (sf : SM) : Bool :=
  match sf with
  | .seq => true
  | .mix cf _ => match cf with
    | .p => false
    | _ => true
def stepX (P : Program) (sf : SM) (op : SOp) (E : Env) (S : Store) (c : D → Store → Prop) : Prop :=
  if isXm sf op then stepS P op E S fun d S' => sOK sf S' ∧ c d S' else stepF P (fs sf S) op E fun d => c d S
def RG (P : Program) (sf : SM) : RT → Env → Store → (Env → Store → Prop) → Prop
  | .nil, E, S, K => K E S
  | .or a b, E, S, K => RG P sf a E S K ∧ RG P sf b E S K
  | .last o, E, S, K => match o.guard with
    | none => stepS P o.op E S fun d S => K (put E o.dst d) S
    | some (g, want) => match E g with
      | .pv (.bool t) => (t = want → stepS P o.op (put E (some g) (.pv (.bool want))) S fun d S => K (put (put E (some g) (.pv (.bool want))) o.dst d) S) ∧
          (t = !want → K (put (put E (some g) (.pv (.bool (!want)))) o.dst .undef) S)
      | .undef => K (put E o.dst .undef) S
      | _ => False
  | .op o rest, E, S, K => match o.guard with
    | none => stepX P sf o.op E S fun d S => RG P sf rest (put E o.dst d) S K
    | some (g, want) => match E g with
      | .pv (.bool t) => (t = want → stepX P sf o.op (put E (some g) (.pv (.bool want))) S fun d S => RG P sf rest (put (put E (some g) (.pv (.bool want))) o.dst d) S K) ∧
          (t = !want → RG P sf rest (put (put E (some g) (.pv (.bool (!want)))) o.dst .undef) S K)
      | .undef => RG P sf rest (put E o.dst .undef) S K
      | _ => False

theorem RG_mix {P : Program} {cf : CF} {SF : Store} {K : Env → Store → Prop} : ∀ {t : RT} {E : Env} {S : Store}, RG P (.mix cf SF) t E S K = regM P cf SF t E S K
  | .nil, _, _ => rfl
  | .or a b, E, S => by simp only [RG, regM]; rw [RG_mix (t := a), RG_mix (t := b)]
  | .last o, E, S => rfl
  | .op o r, E, S => by
    have hs : ∀ E' (f : D → Env), stepX P (.mix cf SF) o.op E' S (fun d S => RG P (.mix cf SF) r (f d) S K) = stepM P cf SF o.op E' S fun d S => regM P cf SF r (f d) S K := fun E' f => by
      have : (fun d S => RG P (.mix cf SF) r (f d) S K) = fun d S => regM P cf SF r (f d) S K := by funext d S; exact RG_mix
      rw [this]; rfl
    unfold RG regM
    cases o.guard with
    | none => exact hs E _
    | some gw =>
      obtain ⟨g, want⟩ := gw
      dsimp only
      cases E g with
      | pv p =>
        cases p with
        | bool t =>
          dsimp only
          rw [hs _ fun d => put (put E (some g) (.pv (.bool want))) o.dst d, RG_mix (t := r)]
        | _ => rfl
      | undef => exact RG_mix
      | _ => rfl
theorem RG_last {P : Program} {sf : SM} {o : SO} {E : Env} {S : Store} {K : Env → Store → Prop} (h : RG P .seq (.op o .nil) E S K) : RG P sf (.last o) E S K := by
  have key : ∀ E' (f : D → Env), stepX P .seq o.op E' S (fun d S => RG P .seq .nil (f d) S K) → stepS P o.op E' S fun d S => K (f d) S := fun E' f h => by
    unfold stepX at h
    split at h
    · have e : (fun d S' => sOK .seq S' ∧ RG P .seq .nil (f d) S' K) = fun d S' => K (f d) S' := by funext d S'; simp [sOK, RG]
      rw [e] at h; exact h
    · rename_i hx
      have h2 : isX o.op = false ∧ isLit o.op = false := by simpa [isXm] using hx
      rw [stepS_free h2.1 h2.2]
      exact h
  unfold RG at h ⊢
  cases hg : o.guard with
  | none => rw [hg] at h; exact key E _ h
  | some gw =>
    obtain ⟨g, want⟩ := gw
    rw [hg] at h
    dsimp only at h ⊢
    split at h
    · rename_i t ht
      exact ⟨fun e => key _ (fun d => put (put E (some g) (.pv (.bool want))) o.dst d) (h.1 e), fun e => h.2 e⟩
    · exact h
    · exact h.elim
theorem RG_seq {P : Program} {K : Env → Store → Prop} : ∀ {l : List SO} {E : Env} {S : Store}, RG P .seq (.ofL l) E S K = regS P l E S K
  | [], _, _ => rfl
  | o :: r, E, S => by
    have hs : ∀ E' (f : D → Env), stepX P .seq o.op E' S (fun d S => RG P .seq (.ofL r) (f d) S K) = stepS P o.op E' S fun d S => regS P r (f d) S K := fun E' f => by
      have : (fun d S => RG P .seq (.ofL r) (f d) S K) = fun d S => regS P r (f d) S K := by funext d S; exact RG_seq
      rw [this]
      unfold stepX
      split
      · congr 1
        funext d S'
        simp [sOK]
      · rename_i hx
        have h2 : isX o.op = false ∧ isLit o.op = false := by simpa [isXm] using hx
        rw [stepS_free h2.1 h2.2]; rfl
    unfold RT.ofL RG regS
    cases o.guard with
    | none => exact hs E _
    | some gw =>
      obtain ⟨g, want⟩ := gw
      dsimp only
      cases E g with
      | pv p =>
        cases p with
        | bool t =>
          dsimp only
          rw [hs _ fun d => put (put E (some g) (.pv (.bool want))) o.dst d, RG_seq (l := r)]
        | _ => rfl
      | undef => exact RG_seq
      | _ => rfl
theorem RG_free {P : Program} {S : Store} : ∀ {l : List SO} {E : Env} {K : Env → Store → Prop}, l.all (fun o => !isXc .p o.op) = true → RG P (.mix .p S) (.ofL l) E S K = regF P S l E fun E => K E S
  | [], E, K, _ => rfl
  | o :: r, E, K, h => by
    simp only [List.all_cons, Bool.and_eq_true, Bool.not_eq_true'] at h
    have hs : ∀ E' (f : D → Env), stepX P (.mix .p S) o.op E' S (fun d S' => RG P (.mix .p S) (.ofL r) (f d) S' K) = stepF P S o.op E' fun d => regF P S r (f d) fun E => K E S := fun E' f => by
      unfold stepX
      rw [if_neg (by simp [isXm, h.1])]
      simp only [fs]
      congr 1
      funext d
      exact RG_free h.2
    unfold RT.ofL RG regF
    cases o.guard with
    | none => exact hs E _
    | some gw =>
      obtain ⟨g, want⟩ := gw
      dsimp only
      cases E g with
      | pv p =>
        cases p with
        | bool t =>
          dsimp only
          rw [hs _ fun d => put (put E (some g) (.pv (.bool want))) o.dst d, RG_free h.2]
        | _ => rfl
      | undef => exact RG_free h.2
      | _ => rfl

section base
variable {P : Program} {sf : SM} {r : RT} {E : Env} {S : Store} {K : Env → Store → Prop} {t : Option Nat} {op : SOp}
theorem rg_nil (h : K E S) : RG P sf .nil E S K := h
theorem isXm_false (h : isX op = false) (hl : isLit op = false) : isXm sf op = false := by
  cases sf with
  | seq => simp [isXm, h, hl]
  | mix cf SF => cases op <;> first | (simp [isLit] at hl; done) | exact h | (simp [isX] at h; done)
theorem rF (hx : isXm sf op = false) (h : stepF P (fs sf S) op E fun d => RG P sf r (put E t d) S K) : RG P sf (.op ⟨t, none, op⟩ r) E S K := by
  simp only [RG, stepX]; rw [if_neg (by simp [hx])]; exact h
theorem rX (hx : isXm sf op = true) (h : stepS P op E S fun d S' => sOK sf S' ∧ RG P sf r (put E t d) S' K) : RG P sf (.op ⟨t, none, op⟩ r) E S K := by
  simp only [RG, stepX]; rw [if_pos hx]; exact h
theorem rg_t {g : Nat} {want : Bool} (hg : E g = .pv (.bool want)) (h : RG P sf (.op ⟨t, none, op⟩ r) E S K) : RG P sf (.op ⟨t, some (g, want), op⟩ r) E S K := by
  simp only [RG] at h ⊢
  simp only [hg]
  refine ⟨fun _ => ?_, fun e => by cases want <;> cases e⟩
  rw [put_same hg]; exact h
theorem rg_f {g : Nat} {want b : Bool} (hg : E g = .pv (.bool b)) (hb : b = !want) (h : RG P sf r (put E t .undef) S K) : RG P sf (.op ⟨t, some (g, want), op⟩ r) E S K := by
  subst hb
  have hp := put_same hg
  cases want <;> simp only [Bool.not_true, Bool.not_false] at hg hp <;> simp only [RG, hg] at h ⊢ <;> simp [hp] <;> exact h
theorem rg_u {g : Nat} {want : Bool} (hg : E g = .undef) (h : RG P sf r (put E t .undef) S K) : RG P sf (.op ⟨t, some (g, want), op⟩ r) E S K := by
  simp only [RG, hg]; exact h
theorem rg_b {g : Nat} {want b : Bool} (hg : E g = .pv (.bool b)) (h1 : b = want → RG P sf (.op ⟨t, some (g, want), op⟩ r) (put E (some g) (.pv (.bool want))) S K)
    (h2 : b = !want → RG P sf (.op ⟨t, some (g, want), op⟩ r) (put E (some g) (.pv (.bool (!want)))) S K) : RG P sf (.op ⟨t, some (g, want), op⟩ r) E S K := by
  by_cases hb : b = want
  · have := h1 hb
    subst hb
    rwa [put_same hg] at this
  · have hb' : b = !want := by cases b <;> cases want <;> simp_all
    have := h2 hb'
    rw [← hb', put_same hg] at this
    exact this
end base

section vs
variable {P : Program} {N k0 : Nat} {K : KK} {E : Env} {S : Store}
def allF : RT → Bool
  | .nil => true
  | .or _ _ => false
  | .last _ => false
  | .op o t => !isXc .p o.op && allF t
def lin : RT → Bool
  | .nil => true
  | .or _ _ => false
  | .last _ => false
  | .op _ t => lin t
theorem lin_ofL : ∀ {t : RT}, lin t = true → ∃ l, t = .ofL l
  | .nil, _ => ⟨[], rfl⟩
  | .or _ _, h => by simp [lin] at h
  | .last _, h => by simp [lin] at h
  | .op o t, h => by
    obtain ⟨l, rfl⟩ := lin_ofL (t := t) h
    exact ⟨o :: l, rfl⟩
theorem allF_ofL : ∀ {t : RT}, allF t = true → ∃ l, t = .ofL l ∧ l.all (fun o => !isXc .p o.op) = true
  | .nil, _ => ⟨[], rfl, rfl⟩
  | .or _ _, h => by simp [allF] at h
  | .last _, h => by simp [allF] at h
  | .op o t, h => by
    simp only [allF, Bool.and_eq_true] at h
    obtain ⟨l, rfl, h2⟩ := allF_ofL h.2
    exact ⟨o :: l, rfl, by simp only [List.all_cons, h.1, h2, Bool.and_self]⟩
theorem VS_r0 {t : RT} (hl : lin t = true) (h : RG P .seq t E S (K .normal)) : VS P N k0 (.reg 0 t) K E S := by
  obtain ⟨l, rfl⟩ := lin_ofL hl
  rw [RG_seq] at h
  exact VS_reg h
theorem VS_r1 {t : RT} (hm : P.follows .mixedOrders = true) (hl : allF t = true) (h : RG P (.mix .p S) t E S (K .normal)) : VS P N k0 (.reg 1 t) K E S := by
  obtain ⟨l, rfl, hl'⟩ := allF_ofL hl
  rw [RG_free hl'] at h
  exact VS_free hm h
theorem VS_r2 {t : RT} (SF : Store) (hm : P.follows .mixedOrders = true) (hsub : Sub SF S) (h : RG P (.mix .w SF) t E S (K .normal)) : VS P N k0 (.reg 2 t) K E S := by
  rw [RG_mix] at h
  exact VS_mix (cf := .w) SF hm hsub h
theorem VS_r3 {t : RT} (SF : Store) (hm : P.follows .mixedOrders = true) (hsub : Sub SF S) (h : RG P (.mix .p SF) t E S (K .normal)) : VS P N k0 (.reg 3 t) K E S := by
  rw [RG_mix] at h
  exact VS_mix (cf := .p) SF hm hsub h
theorem VS_r6 {t : RT} (SF : Store) (hm : P.follows .mixedOrders = true) (hsub : Sub SF S) (h : RG P (.mix .l SF) t E S (K .normal)) : VS P N k0 (.reg 6 t) K E S := by
  rw [RG_mix] at h
  exact VS_mix (cf := .l) SF hm hsub h
end vs

/-! one step each -/
section q
variable {P : Program} {sf : SM} {r : RT} {L : List (Nat × D)} {S : Store} {K : Env → Store → Prop} {t : Nat}
theorem qF {op : SOp} (hx : (isX op || isLit op) = false) (h : stepF P (fs sf S) op (env L) fun d => RG P sf r (env ((t, d) :: L)) S K) : RG P sf (.op ⟨some t, none, op⟩ r) (env L) S K := by
  refine rF (isXm_false (by simp only [Bool.or_eq_false_iff] at hx; exact hx.1) (by simp only [Bool.or_eq_false_iff] at hx; exact hx.2)) ?_
  simp only [put_env]
  exact h
theorem q_mv {x : Opd} {d : D} (hx : ev (env L) x = d) (h : RG P sf r (env ((t, d) :: L)) S K) : RG P sf (.op ⟨some t, none, .mv x⟩ r) (env L) S K := by
  subst hx; exact qF rfl h
theorem q_pick_t {x a b : Opd} {d : D} (hx : ev (env L) x = .pv (.bool true)) (ha : ev (env L) a = d) (h : RG P sf r (env ((t, d) :: L)) S K) : RG P sf (.op ⟨some t, none, .pick x a b⟩ r) (env L) S K := by
  subst ha
  refine qF rfl ?_
  simp only [stepF, hx]
  exact ⟨fun _ => h, fun e => by cases e⟩
theorem q_pick_f {x a b : Opd} {d : D} (hx : ev (env L) x = .pv (.bool false)) (ha : ev (env L) b = d) (h : RG P sf r (env ((t, d) :: L)) S K) : RG P sf (.op ⟨some t, none, .pick x a b⟩ r) (env L) S K := by
  subst ha
  refine qF rfl ?_
  simp only [stepF, hx]
  exact ⟨fun e => (by cases e), fun _ => h⟩
theorem q_bin {op : BinOp} {x y : Opd} {k k' : IntKind} {a b : Int} (hx : ev (env L) x = .pv (.int k a)) (hy : ev (env L) y = .pv (.int k' b)) (hk : k = k' ∨ op = .shr)
    (h : binI op k a b fun d => RG P sf r (env ((t, d) :: L)) S K) : RG P sf (.op ⟨some t, none, .bin op x y⟩ r) (env L) S K := by
  refine qF rfl ?_
  simp only [stepF, hx, hy, binD]
  exact ⟨hk, h⟩
theorem q_add {x y : Opd} {k : IntKind} {a b : Int} (hx : ev (env L) x = .pv (.int k a)) (hy : ev (env L) y = .pv (.int k b)) (hr : inR k (a + b)) (h : RG P sf r (env ((t, .pv (.int k (a + b))) :: L)) S K) :
    RG P sf (.op ⟨some t, none, .bin .add x y⟩ r) (env L) S K := q_bin hx hy (.inl rfl) ⟨hr, h⟩
theorem q_sub {x y : Opd} {k : IntKind} {a b : Int} (hx : ev (env L) x = .pv (.int k a)) (hy : ev (env L) y = .pv (.int k b)) (hr : inR k (a - b)) (h : RG P sf r (env ((t, .pv (.int k (a - b))) :: L)) S K) :
    RG P sf (.op ⟨some t, none, .bin .sub x y⟩ r) (env L) S K := q_bin hx hy (.inl rfl) ⟨hr, h⟩
theorem q_mul {x y : Opd} {k : IntKind} {a b : Int} (hx : ev (env L) x = .pv (.int k a)) (hy : ev (env L) y = .pv (.int k b)) (hr : inR k (a * b)) (h : RG P sf r (env ((t, .pv (.int k (a * b))) :: L)) S K) :
    RG P sf (.op ⟨some t, none, .bin .mul x y⟩ r) (env L) S K := q_bin hx hy (.inl rfl) ⟨hr, h⟩
theorem q_quo {x y : Opd} {k : IntKind} {a b : Int} (hx : ev (env L) x = .pv (.int k a)) (hy : ev (env L) y = .pv (.int k b)) (hr : 0 ≤ a ∧ 0 < b ∧ inR k (a / b)) (h : RG P sf r (env ((t, .pv (.int k (a / b))) :: L)) S K) :
    RG P sf (.op ⟨some t, none, .bin .quo x y⟩ r) (env L) S K := q_bin hx hy (.inl rfl) ⟨hr, h⟩
theorem q_rem {x y : Opd} {k : IntKind} {a b : Int} (hx : ev (env L) x = .pv (.int k a)) (hy : ev (env L) y = .pv (.int k b)) (hr : 0 ≤ a ∧ 0 < b) (h : RG P sf r (env ((t, .pv (.int k (a % b))) :: L)) S K) :
    RG P sf (.op ⟨some t, none, .bin .rem x y⟩ r) (env L) S K := q_bin hx hy (.inl rfl) ⟨hr, h⟩
theorem q_xor {x y : Opd} {k : IntKind} {a b : Int} (hx : ev (env L) x = .pv (.int k a)) (hy : ev (env L) y = .pv (.int k b)) (hr : 0 ≤ a ∧ 0 ≤ b ∧ a ≤ k.max ∧ b ≤ k.max)
    (h : RG P sf r (env ((t, .pv (.int k ((a.toNat ^^^ b.toNat : Nat) : Int))) :: L)) S K) : RG P sf (.op ⟨some t, none, .bin .xor x y⟩ r) (env L) S K := q_bin hx hy (.inl rfl) ⟨hr, h⟩
theorem q_eql {x y : Opd} {k : IntKind} {a b : Int} (hx : ev (env L) x = .pv (.int k a)) (hy : ev (env L) y = .pv (.int k b)) (h : RG P sf r (env ((t, .pv (.bool (decide (a = b)))) :: L)) S K) :
    RG P sf (.op ⟨some t, none, .bin .eql x y⟩ r) (env L) S K := q_bin hx hy (.inl rfl) h
theorem q_neq {x y : Opd} {k : IntKind} {a b : Int} (hx : ev (env L) x = .pv (.int k a)) (hy : ev (env L) y = .pv (.int k b)) (h : RG P sf r (env ((t, .pv (.bool (!decide (a = b)))) :: L)) S K) :
    RG P sf (.op ⟨some t, none, .bin .neq x y⟩ r) (env L) S K := q_bin hx hy (.inl rfl) h
theorem q_lss {x y : Opd} {k : IntKind} {a b : Int} (hx : ev (env L) x = .pv (.int k a)) (hy : ev (env L) y = .pv (.int k b)) (h : RG P sf r (env ((t, .pv (.bool (decide (a < b)))) :: L)) S K) :
    RG P sf (.op ⟨some t, none, .bin .lss x y⟩ r) (env L) S K := q_bin hx hy (.inl rfl) h
theorem q_leq {x y : Opd} {k : IntKind} {a b : Int} (hx : ev (env L) x = .pv (.int k a)) (hy : ev (env L) y = .pv (.int k b)) (h : RG P sf r (env ((t, .pv (.bool (decide (a ≤ b)))) :: L)) S K) :
    RG P sf (.op ⟨some t, none, .bin .leq x y⟩ r) (env L) S K := q_bin hx hy (.inl rfl) h
theorem q_gtr {x y : Opd} {k : IntKind} {a b : Int} (hx : ev (env L) x = .pv (.int k a)) (hy : ev (env L) y = .pv (.int k b)) (h : RG P sf r (env ((t, .pv (.bool (decide (b < a)))) :: L)) S K) :
    RG P sf (.op ⟨some t, none, .bin .gtr x y⟩ r) (env L) S K := q_bin hx hy (.inl rfl) h
theorem q_geq {x y : Opd} {k : IntKind} {a b : Int} (hx : ev (env L) x = .pv (.int k a)) (hy : ev (env L) y = .pv (.int k b)) (h : RG P sf r (env ((t, .pv (.bool (decide (b ≤ a)))) :: L)) S K) :
    RG P sf (.op ⟨some t, none, .bin .geq x y⟩ r) (env L) S K := q_bin hx hy (.inl rfl) h
theorem q_not {x : Opd} {b : Bool} (hx : ev (env L) x = .pv (.bool b)) (h : RG P sf r (env ((t, .pv (.bool (!b))) :: L)) S K) : RG P sf (.op ⟨some t, none, .not x⟩ r) (env L) S K := by
  refine qF rfl ?_; simp only [stepF, hx]; exact h
theorem q_conv {x : Opd} {k k' : IntKind} {n : Int} (hx : ev (env L) x = .pv (.int k' n)) (hr : inR k n) (h : RG P sf r (env ((t, .pv (.int k n)) :: L)) S K) : RG P sf (.op ⟨some t, none, .conv k x⟩ r) (env L) S K := by
  refine qF rfl ?_; simp only [stepF, hx]; exact ⟨hr, h⟩
theorem q_len_s {x : Opd} {xs : List PV} (hx : ev (env L) x = .pv (.sl xs)) (h : RG P sf r (env ((t, .pv (.int .i64 xs.length)) :: L)) S K) : RG P sf (.op ⟨some t, none, .len x⟩ r) (env L) S K := by
  refine qF rfl ?_; simp only [stepF, hx]; exact h
theorem q_len_n {x : Opd} (hx : ev (env L) x = .nils) (h : RG P sf r (env ((t, .pv (.int .i64 0)) :: L)) S K) : RG P sf (.op ⟨some t, none, .len x⟩ r) (env L) S K := by
  refine qF rfl ?_; simp only [stepF, hx]; exact h
theorem q_len_o {x : Opd} {o n : Nat} (hx : ev (env L) x = .own o n) (h : RG P sf r (env ((t, .pv (.int .i64 n)) :: L)) S K) : RG P sf (.op ⟨some t, none, .len x⟩ r) (env L) S K := by
  refine qF rfl ?_; simp only [stepF, hx]; exact h
theorem q_nilc_r {x : Opd} {o i j : Nat} (hx : ev (env L) x = .ptr o i j) (h : RG P sf r (env ((t, .ptr o i j) :: L)) S K) : RG P sf (.op ⟨some t, none, .nilc x⟩ r) (env L) S K := by
  refine qF rfl ?_; simp only [stepF, hx]; exact h
theorem q_idx_s {sz : Nat} {x i : Opd} {xs : List PV} {k : IntKind} {n : Int} {p : PV} (hx : ev (env L) x = .pv (.sl xs)) (hi : ev (env L) i = .pv (.int k n)) (h0 : 0 ≤ n) (hp : xs[n.toNat]? = some p) (hsz : p.nc = sz)
    (h : RG P sf r (env ((t, .pv (.con p)) :: L)) S K) : RG P sf (.op ⟨some t, none, .idx sz x i⟩ r) (env L) S K := by
  refine qF rfl ?_
  obtain ⟨hl, rfl⟩ := List.getElem?_eq_some_iff.1 hp
  simp only [stepF, hx, hi]
  exact ⟨h0, hl, hsz, h⟩
theorem q_idx_o {sz : Nat} {x i : Opd} {o m : Nat} {k : IntKind} {n : Int} {ob : Ob} (hx : ev (env L) x = .own o m) (hi : ev (env L) i = .pv (.int k n)) (h0 : 0 ≤ n) (h1 : n < m) (hS : (fs sf S)[o]? = some (some ob)) (hsz : ob.sz = sz)
    (h : RG P sf r (env ((t, .ptr o n.toNat 0) :: L)) S K) : RG P sf (.op ⟨some t, none, .idx sz x i⟩ r) (env L) S K := by
  refine qF rfl ?_
  simp only [stepF, hx, hi]
  exact ⟨⟨h0, h1, ob, hS, hsz⟩, h⟩
theorem q_aidx_r {n sz : Nat} {x i : Opd} {o a b : Nat} {k : IntKind} {m : Int} (hx : ev (env L) x = .ptr o a b) (hi : ev (env L) i = .pv (.int k m)) (hr : 0 ≤ m ∧ m < n)
    (h : RG P sf r (env ((t, .ptr o a (b + m.toNat * sz)) :: L)) S K) : RG P sf (.op ⟨some t, none, .aidx n sz x i⟩ r) (env L) S K := by
  refine qF rfl ?_
  simp only [stepF, hx, hi]
  exact ⟨hr, h⟩
theorem q_fld_r {off sz : Nat} {agg : Bool} {x : Opd} {o i j : Nat} (hx : ev (env L) x = .ptr o i j) (h : RG P sf r (env ((t, .ptr o i (j + off)) :: L)) S K) : RG P sf (.op ⟨some t, none, .fld off sz agg x⟩ r) (env L) S K := by
  refine qF rfl ?_; simp only [stepF, hx]; exact h
theorem q_fld_c {off sz : Nat} {x : Opd} {cs : List PV} {p : PV} (hx : ev (env L) x = .pv (.con (.agg cs))) (hp : cs[off]? = some p) (h : RG P sf r (env ((t, .pv (.con p)) :: L)) S K) : RG P sf (.op ⟨some t, none, .fld off sz false x⟩ r) (env L) S K := by
  refine qF rfl ?_
  obtain ⟨hl, rfl⟩ := List.getElem?_eq_some_iff.1 hp
  simp only [stepF, hx, fldP]
  exact ⟨hl, h⟩
theorem q_load_c {sz : Nat} {agg : Bool} {x : Opd} {p : PV} (hx : ev (env L) x = .pv (.con p)) (h1 : p.nc = sz) (h2 : isAggP p = agg) (h : RG P sf r (env ((t, .pv p) :: L)) S K) : RG P sf (.op ⟨some t, none, .load sz agg x⟩ r) (env L) S K := by
  refine qF rfl ?_
  simp only [stepF, hx]
  exact ⟨⟨h1, h2⟩, h⟩
theorem q_load_r {sz : Nat} {x : Opd} {o i j : Nat} {ob : Ob} {y d : D} {cs : List D} (hx : ev (env L) x = .ptr o i j) (hS : (fs sf S)[o]? = some (some ob)) (hy : ob.xs[i]? = some y) (hc : cellsD y = some cs) (hl : cs.length = ob.sz)
    (hd : cs[j]? = some d) (h1 : isOne d = true) (h : RG P sf r (env ((t, d) :: L)) S K) : RG P sf (.op ⟨some t, none, .load sz false x⟩ r) (env L) S K := by
  refine qF rfl ?_
  obtain ⟨hi, rfl⟩ := List.getElem?_eq_some_iff.1 hy
  obtain ⟨hj, rfl⟩ := List.getElem?_eq_some_iff.1 hd
  simp only [stepF, hx, hS, hc, fldD]
  exact ⟨hi, hl, hj, h1, h⟩
theorem q_load_ra {sz : Nat} {x : Opd} {o i j : Nat} {ob : Ob} {y : D} {cs ds : List D} (hx : ev (env L) x = .ptr o i j) (hS : (fs sf S)[o]? = some (some ob)) (hy : ob.xs[i]? = some y) (hc : cellsD y = some cs) (hl : cs.length = ob.sz)
    (hj : j + sz ≤ cs.length) (hd : (cs.drop j).take sz = ds) (h : RG P sf r (env ((t, .agg ds) :: L)) S K) : RG P sf (.op ⟨some t, none, .load sz true x⟩ r) (env L) S K := by
  refine qF rfl ?_
  obtain ⟨hi, rfl⟩ := List.getElem?_eq_some_iff.1 hy
  subst hd
  simp only [stepF, hx, hS, hc, fldD]
  exact ⟨hi, hl, hj, h⟩
theorem q_build {zero cs : List D} {parts : List (Nat × Nat × Opd)} (hx : fillD (env L) zero parts = some cs) (h : RG P sf r (env ((t, .agg cs) :: L)) S K) : RG P sf (.op ⟨some t, none, .build zero parts⟩ r) (env L) S K := by
  refine qF rfl ?_; simp only [stepF, hx]; exact h
theorem q_slc {sz : Nat} {x : Opd} {lo hi : Option Opd} {xs : List PV} {a b : Int} (hx : asSl (ev (env L) x) = some xs) (hl : optI (env L) lo 0 = some a) (hh : optI (env L) hi xs.length = some b)
    (hr : 0 ≤ a ∧ a ≤ b ∧ b ≤ xs.length) (hsz : ∀ x ∈ xs, x.nc = sz) (h : RG P sf r (env ((t, slR (ev (env L) x) ((xs.take b.toNat).drop a.toNat)) :: L)) S K) : RG P sf (.op ⟨some t, none, .slc sz x lo hi⟩ r) (env L) S K := by
  refine qF rfl ?_; simp only [stepF, hx, hl, hh]; exact ⟨⟨hr.1, hr.2.1, hr.2.2, hsz⟩, h⟩
theorem q_ext {x : Opd} {i : Nat} {ds : List D} {d : D} (hx : ev (env L) x = .tup ds) (hd : ds[i]? = some d) (h : RG P sf r (env ((t, d) :: L)) S K) : RG P sf (.op ⟨some t, none, .ext x i⟩ r) (env L) S K := by
  refine qF rfl ?_
  obtain ⟨hl, rfl⟩ := List.getElem?_eq_some_iff.1 hd
  simp only [stepF, hx]
  exact ⟨hl, h⟩
theorem q_mx {x y : Opd} {k k' : IntKind} {a b : Int} (hx : ev (env L) x = .pv (.int k a)) (hy : ev (env L) y = .pv (.int k' b)) (h : RG P sf r (env ((t, .pv (.int k (max a b))) :: L)) S K) : RG P sf (.op ⟨some t, none, .mx x y⟩ r) (env L) S K := by
  refine qF rfl ?_; simp only [stepF, hx, hy]; exact h
class NoLit (sf : SM) : Prop where
  no : sf = .seq ∨ ∀ (ty sz n : Nat) (zero : List D) (parts : List (Nat × Opd)), isXm sf (.lit ty sz n zero parts) = false
instance : NoLit .seq := ⟨.inl rfl⟩
instance {SF : Store} : NoLit (.mix .w SF) := ⟨.inr fun _ _ _ _ _ => rfl⟩
instance {SF : Store} : NoLit (.mix .p SF) := ⟨.inr fun _ _ _ _ _ => rfl⟩
theorem qL [hn : NoLit sf] {ty sz n : Nat} {zero : List D} {parts : List (Nat × Opd)} (h : stepF P (fs sf S) (.lit ty sz n zero parts) (env L) fun d => RG P sf r (env ((t, d) :: L)) S K) : RG P sf (.op ⟨some t, none, .lit ty sz n zero parts⟩ r) (env L) S K := by
  rcases hn.no with rfl | hf
  · refine rX rfl ?_
    simp only [put_env, sOK, true_and]
    exact .inl h
  · refine rF (hf _ _ _ _ _) ?_
    simp only [put_env]
    exact h
theorem q_lit0 [NoLit sf] {ty sz : Nat} {zero : List D} {parts : List (Nat × Opd)} (h : RG P sf r (env ((t, .nils) :: L)) S K) : RG P sf (.op ⟨some t, none, .lit ty sz 0 zero parts⟩ r) (env L) S K := by
  refine qL ?_; simp only [stepF, if_true]; exact h
theorem q_lit [NoLit sf] {ty sz n : Nat} {zero : List D} {parts : List (Nat × Opd)} {xs : List PV} (hn : (n == 0) = false) (hx : litD (env L) sz n parts = some xs) (h1 : xs.all (fun x => x.nc == sz) = true) (h2 : zero.length = sz) (h : RG P sf r (env ((t, .pv (.sl xs)) :: L)) S K) : RG P sf (.op ⟨some t, none, .lit ty sz n zero parts⟩ r) (env L) S K := by
  refine qL ?_
  simp only [stepF, hx]
  rw [if_neg (by simpa using hn)]
  exact ⟨fun x hx => by have := List.all_eq_true.1 h1 x hx; simpa using this, h2, h⟩
theorem q_lito {ty sz n : Nat} {zero : List D} {parts : List (Nat × Opd)} {xs : List PV} (hn : (n == 0) = false) (hx : litD (env L) sz n parts = some xs) (h1 : xs.all (fun x => x.nc == sz) = true) (h2 : zero.length = sz) (h : RG P .seq r (env ((t, .own S.length n) :: L)) (S ++ [some ⟨ty, sz, xs.map .pv⟩]) K) : RG P .seq (.op ⟨some t, none, .lit ty sz n zero parts⟩ r) (env L) S K := by
  refine rX rfl ?_
  simp only [put_env, sOK, true_and]
  exact .inr (.inl ⟨by simpa using hn, xs, hx, fun x hx => by have := List.all_eq_true.1 h1 x hx; simpa using this, h2, h⟩)
theorem q_litx {SF : Store} {ty sz n : Nat} {zero : List D} {parts : List (Nat × Opd)} {xs : List PV} (hn : (n == 0) = false) (hx : litD (env L) sz n parts = some xs) (h1 : xs.all (fun x => x.nc == sz) = true) (h2 : zero.length = sz) (hs : sOK (.mix .l SF) (S ++ [some ⟨ty, sz, xs.map .pv⟩])) (h : RG P (.mix .l SF) r (env ((t, .own S.length n) :: L)) (S ++ [some ⟨ty, sz, xs.map .pv⟩]) K) : RG P (.mix .l SF) (.op ⟨some t, none, .lit ty sz n zero parts⟩ r) (env L) S K := by
  refine rX rfl ?_
  simp only [put_env]
  exact .inr (.inl ⟨by simpa using hn, xs, hx, fun x hx => by have := List.all_eq_true.1 h1 x hx; simpa using this, h2, hs, h⟩)
theorem q_litA {ty sz n : Nat} {zero : List D} {parts : List (Nat × Opd)} {xs : List (List D)} (hn : (n == 0) = false) (hx : litA (env L) parts = some xs) (h1 : xs.all (fun x => x.length == sz) = true) (h2 : zero.length = sz) (h : RG P .seq r (env ((t, .own S.length n) :: L)) (S ++ [some ⟨ty, sz, xs.map .agg⟩]) K) : RG P .seq (.op ⟨some t, none, .lit ty sz n zero parts⟩ r) (env L) S K := by
  refine rX rfl ?_
  simp only [put_env, sOK, true_and]
  exact .inr (.inr ⟨by simpa using hn, xs, hx, fun x hx => by have := List.all_eq_true.1 h1 x hx; simpa using this, h2, h⟩)
theorem q_litxA {SF : Store} {ty sz n : Nat} {zero : List D} {parts : List (Nat × Opd)} {xs : List (List D)} (hn : (n == 0) = false) (hx : litA (env L) parts = some xs) (h1 : xs.all (fun x => x.length == sz) = true) (h2 : zero.length = sz) (hs : sOK (.mix .l SF) (S ++ [some ⟨ty, sz, xs.map .agg⟩])) (h : RG P (.mix .l SF) r (env ((t, .own S.length n) :: L)) (S ++ [some ⟨ty, sz, xs.map .agg⟩]) K) : RG P (.mix .l SF) (.op ⟨some t, none, .lit ty sz n zero parts⟩ r) (env L) S K := by
  refine rX rfl ?_
  simp only [put_env]
  exact .inr (.inr ⟨by simpa using hn, xs, hx, fun x hx => by have := List.all_eq_true.1 h1 x hx; simpa using this, h2, hs, h⟩)
theorem q_litp {SF : Store} {ty sz n : Nat} {zero : List D} {parts : List (Nat × Opd)} {xs : List PV} (hn : (n == 0) = false) (hx : litD (env L) sz n parts = some xs) (h1 : xs.all (fun x => x.nc == sz) = true) (h2 : zero.length = sz) (hs : sOK (.mix .l SF) S) (h : RG P (.mix .l SF) r (env ((t, .pv (.sl xs)) :: L)) S K) : RG P (.mix .l SF) (.op ⟨some t, none, .lit ty sz n zero parts⟩ r) (env L) S K := by
  refine rX rfl ?_
  simp only [put_env]
  refine .inl ?_
  simp only [stepF, hx]
  rw [if_neg (by simpa using hn)]
  exact ⟨fun x hx => by have := List.all_eq_true.1 h1 x hx; simpa using this, h2, hs, h⟩
theorem qX {op : SOp} (hx : isXm sf op = true) (h : stepS P op (env L) S fun d S' => sOK sf S' ∧ RG P sf r (env ((t, d) :: L)) S' K) : RG P sf (.op ⟨some t, none, op⟩ r) (env L) S K := by
  refine rX hx ?_
  simp only [put_env]
  exact h
theorem cOK_x {f : FuncId} {args : List Opd} (h : cOK sf = true) : isXm sf (.call f args) = true := by cases sf <;> exact h
theorem q_call {f : FuncId} {args : List Opd} (hm : cOK sf = true) (h : CallS P f (args.map (ev (env L))) S fun d S' => sOK sf S' ∧ RG P sf r (env ((t, d) :: L)) S' K) : RG P sf (.op ⟨some t, none, .call f args⟩ r) (env L) S K := qX (cOK_x hm) h
theorem q_callp {f : FuncId} {args : List Opd} {ps : List PV} {x : PV} (hc : PCon P f ps (fun p => p = x)) (ha : toPVs (args.map (ev (env L))) = some ps) (hs : sOK sf S) (h : RG P sf r (env ((t, ofPV x) :: L)) S K) : RG P sf (.op ⟨some t, none, .call f args⟩ r) (env L) S K := by
  cases hm : cOK sf with
  | true => exact q_call hm (CallS.pure' hc ha ⟨hs, h⟩)
  | false =>
    have hx : isXm sf (.call f args) = false := by cases sf <;> exact hm
    refine rF hx ?_
    simp only [put_env, stepF, ha]
    exact ⟨x, hc, h⟩
theorem q_calll {f : FuncId} {args : List Opd} {ps : List PV} {x : PV} (hm : cOK sf = true) (hc : PCon P f ps (fun p => p = x)) (ha : toRs 5 S (args.map (ev (env L))) = some ps) (hfl : flatR x = true) (hs : sOK sf S) (h : RG P sf r (env ((t, ofPV x) :: L)) S K) : RG P sf (.op ⟨some t, none, .call f args⟩ r) (env L) S K :=
  q_call hm (CallS.lend hc ha (fun _ e => e ▸ hfl) fun _ e => e ▸ ⟨hs, h⟩)
theorem q_box {ty sz : Nat} {x : Opd} {d : D} {cs : List D} (hx : ev (env L) x = d) (hc : cellsD d = some cs) (hl : cs.length = sz) (hs : sOK sf (S ++ [some ⟨ty, sz, [d]⟩])) (h : RG P sf r (env ((t, .ptr S.length 0 0) :: L)) (S ++ [some ⟨ty, sz, [d]⟩]) K) :
    RG P sf (.op ⟨some t, none, .box ty sz x⟩ r) (env L) S K := by
  refine qX (by cases sf <;> rfl) ?_
  subst hx
  simp only [stepS, hc]
  exact ⟨hl, hs, h⟩
theorem q_alloc {ty sz : Nat} {z : D} (hs : sOK sf (S ++ [some ⟨ty, sz, [z]⟩])) (h : RG P sf r (env ((t, .ptr S.length 0 0) :: L)) (S ++ [some ⟨ty, sz, [z]⟩]) K) : RG P sf (.op ⟨some t, none, .alloc ty sz z⟩ r) (env L) S K := qX (by cases sf <;> rfl) ⟨hs, h⟩
theorem q_store {sz : Nat} {x y : Opd} {o i j : Nat} {ob : Ob} {e d z : D} {cs ds : List D} (hx : ev (env L) x = .ptr o i j) (hy : ev (env L) y = d) (hS : S[o]? = some (some ob)) (he : ob.xs[i]? = some e) (hc : cellsD e = some cs) (hd : cellsD d = some ds)
    (hr : cs.length = ob.sz ∧ ds.length = sz ∧ j + sz ≤ ob.sz ∧ ds.all isCell = true ∧ (isOne e = true → isOne d = true)) (hz : (if isOne e then d else .agg (setAt cs j ds)) = z) (hs : sOK sf (S.set o (some { ob with xs := ob.xs.set i z })))
    (h : RG P sf r (env L) (S.set o (some { ob with xs := ob.xs.set i z })) K) : RG P sf (.op ⟨none, none, .store sz x y⟩ r) (env L) S K := by
  refine rX (by cases sf <;> rfl) ?_
  subst hy hz
  obtain ⟨hi, rfl⟩ := List.getElem?_eq_some_iff.1 he
  simp only [stepS, hx, hS, hc, hd]
  exact ⟨hi, hr, hs, h⟩
theorem q_mks {ty sz bytes : Nat} {z : D} {n : Opd} {k : IntKind} {m : Int} (hx : ev (env L) n = .pv (.int k m)) (hr : 0 ≤ m ∧ (bytes : Int) * m ≤ 281474976710656 ∧ m ≤ 9223372036854775807) (hs : sOK sf (S ++ [some ⟨ty, sz, List.replicate m.toNat z⟩]))
    (h : RG P sf r (env ((t, .own S.length m.toNat) :: L)) (S ++ [some ⟨ty, sz, List.replicate m.toNat z⟩]) K) : RG P sf (.op ⟨some t, none, .mks ty sz bytes z n⟩ r) (env L) S K := by
  refine qX (by cases sf <;> rfl) ?_
  simp only [stepS, hx]
  exact ⟨hr, hs, h⟩
/-! guards -/
theorem q_last {o : SO} (h : RG P .seq (.op o .nil) (env L) S K) : RG P sf (.last o) (env L) S K := RG_last h
theorem q_or {a b : RT} (h1 : RG P sf a (env L) S K) (h2 : RG P sf b (env L) S K) : RG P sf (.or a b) (env L) S K := ⟨h1, h2⟩
theorem q_t {op : SOp} {d : Option Nat} {g : Nat} {want : Bool} (hg : env L g = .pv (.bool want)) (h : RG P sf (.op ⟨d, none, op⟩ r) (env L) S K) : RG P sf (.op ⟨d, some (g, want), op⟩ r) (env L) S K := rg_t hg h
theorem q_f {op : SOp} {g : Nat} {want : Bool} (hg : env L g = .pv (.bool (!want))) (h : RG P sf r (env ((t, .undef) :: L)) S K) : RG P sf (.op ⟨some t, some (g, want), op⟩ r) (env L) S K := rg_f hg rfl (by rw [put_env]; exact h)
theorem q_u {op : SOp} {g : Nat} {want : Bool} (hg : env L g = .undef) (h : RG P sf r (env ((t, .undef) :: L)) S K) : RG P sf (.op ⟨some t, some (g, want), op⟩ r) (env L) S K := rg_u hg (by rw [put_env]; exact h)
theorem q_b {op : SOp} {d : Option Nat} {g : Nat} {want b : Bool} (hg : env L g = .pv (.bool b)) (h1 : b = want → RG P sf (.op ⟨d, some (g, want), op⟩ r) (env ((g, .pv (.bool want)) :: L)) S K)
    (h2 : b = !want → RG P sf (.op ⟨d, some (g, want), op⟩ r) (env ((g, .pv (.bool (!want))) :: L)) S K) : RG P sf (.op ⟨d, some (g, want), op⟩ r) (env L) S K := rg_b hg (fun e => by rw [put_env]; exact h1 e) fun e => by rw [put_env]; exact h2 e
end q

def keepOK (E : Env) : List (Nat × D) → Prop
  | [] => True
  | (t, d) :: L => E t = d ∧ keepOK E L
theorem Bd.keepL {k0 : Nat} {E : Env} {S : Store} {R : Env → Store → Prop} (L : List (Nat × D)) (h1 : keepOK E L) (h : R (env L) S) : Bd k0 E S R := by
  refine Bd.keep L ?_ h
  clear h
  induction L with
  | nil => intro p hp; cases hp
  | cons q L ih =>
    obtain ⟨t, d⟩ := q
    intro p hp
    rcases List.mem_cons.1 hp with rfl | hp
    · exact h1.1
    · exact ih h1.2 p hp
theorem inR64 {n : Int} (h : -9223372036854775808 ≤ n ∧ n ≤ 9223372036854775807) : inR .i64 n := h
theorem EndS.mono {k0 : Nat} {ρ : Rho} {I : Nat → Prop} {w : World} {N : Nat} {Q Q' : Env → Store → Prop} {a' : Act} {w' : World} (h : EndS k0 ρ I w N Q a' w') (hq : ∀ E S, Q E S → Q' E S) : EndS k0 ρ I w N Q' a' w' :=
  let ⟨E2, S2, ρ2, I2, q1, q2⟩ := h
  ⟨E2, S2, ρ2, I2, hq _ _ q1, q2⟩
theorem VS_mono {P : Program} {N k0 : Nat} {sc : SCode} {K K' : KK} {E : Env} {S : Store} (h : VS P N k0 sc K E S) (hk : ∀ x E S, K x E S → K' x E S) : VS P N k0 sc K' E S :=
  fun H c hc ρ I w a hs he ha hd hk0 => wp_mono (h H c hc ρ I w a hs he ha hd hk0) fun x _ _ hx => hx.mono (hk x)
theorem VS_join {P : Program} {N k0 : Nat} {a b : SCode} {K : KK} {E : Env} {S : Store} (R : Env → Store → Prop) (h1 : VS P N k0 a (KThen (fun E S => Bd k0 E S R) K) E S) (h2 : ∀ E S, R E S → VS P N k0 b K E S) : VS P N k0 (.seq a b) K E S := by
  refine VS_seq (VS_mono h1 fun x E S hx => ?_)
  cases x with
  | normal =>
    refine VS_bd fun ρ I w ac hs he hk => ?_
    obtain ⟨E', S', ρ', I', g1, g2⟩ := hx ρ I w ac hs he hk
    exact ⟨E', S', ρ', I', h2 E' S' g1, g2⟩
  | _ => exact hx

def nth {α : Type} [Inhabited α] (xs : List α) (i : Nat) : α := xs.getD i default
theorem nth_eq {α : Type} [Inhabited α] {xs : List α} {i : Nat} (h : i < xs.length) : nth xs i = xs[i] := by
  unfold nth; rw [List.getD_eq_getElem?_getD, List.getElem?_eq_getElem h]; rfl
theorem q_idx_m {P : Program} {sf : SM} {r : RT} {L : List (Nat × D)} {S : Store} {K : Env → Store → Prop} {t : Nat} {α : Type} [Inhabited α] {sz : Nat} {x i : Opd} {f : α → PV} {xs : List α} {k : IntKind} {n : Int}
    (hx : ev (env L) x = .pv (.sl (xs.map f))) (hi : ev (env L) i = .pv (.int k n)) (h0 : 0 ≤ n) (h1 : n < xs.length) (hsz : ∀ a, (f a).nc = sz)
    (h : RG P sf r (env ((t, .pv (.con (f (nth xs n.toNat)))) :: L)) S K) : RG P sf (.op ⟨some t, none, .idx sz x i⟩ r) (env L) S K := by
  have hl : n.toNat < xs.length := by omega
  refine q_idx_s (p := f (nth xs n.toNat)) hx hi h0 ?_ (hsz _) h
  rw [List.getElem?_map, List.getElem?_eq_getElem hl, nth_eq hl]
  rfl
theorem Sub.nil {S : Store} : Sub [] S := fun o ob h => by simp at h
abbrev i64 (n : Int) : PV := .int .i64 n
abbrev ints (xs : List Int) : PV := .sl (xs.map (.int .i64))

theorem q_len_m {P : Program} {sf : SM} {r : RT} {L : List (Nat × D)} {S : Store} {K : Env → Store → Prop} {t : Nat} {α : Type} {x : Opd} {f : α → PV} {xs : List α}
    (hx : ev (env L) x = .pv (.sl (xs.map f))) (h : RG P sf r (env ((t, .pv (.int .i64 xs.length)) :: L)) S K) : RG P sf (.op ⟨some t, none, .len x⟩ r) (env L) S K := q_len_s hx (by simpa using h)

theorem VS_st {P : Program} {N k0 : Nat} {sc : SCode} {K : KK} {E : Env} {S : Store} (S' : Store) (h : S = S') (hv : VS P N k0 sc K E S') : VS P N k0 sc K E S := h ▸ hv

theorem Sub.refl (S : Store) : Sub S S := Sub.of_eq fun _ _ h => h
end Go.V

namespace Go.V
open Go.RowKit
theorem lt_of_cell {w : World} {a : Addr} {v : Value} (h : w.cell? a = some v) : a.block < w.heap.size := by
  unfold World.cell? at h
  by_cases hb : a.block < w.heap.size
  · exact hb
  · rw [Array.getElem?_eq_none (by omega)] at h
    simp at h
theorem rd_true {I : Nat → Prop} {w : World} {u : Value} {b : Bool} (h : RD [] I w u (.pv (.bool b))) : u = .bool b := by
  have h' : RC I w [u] (.bool b) := h
  cases h'; rfl
theorem law_calls {P : Program} {f : FuncId} (h : ∀ bs : List Int, (∀ x ∈ bs, 0 ≤ x ∧ x ≤ 255) → bs.length ≤ maxLen → PCon P f [.sl (bs.map (.int .u8))] (fun p => p = .bool true))
    (a0 : Option Addr) (len cap : Nat) (zs : List Int) (w : World)
    (w0 : (a0 = none ∧ len = 0 ∧ cap = 0 ∧ zs = []) ∨ ∃ x, a0 = some x ∧ len ≤ cap ∧ cap ≤ maxLen ∧ zs.length = cap ∧ (∀ i, i < zs.length → w.cell? (x.add i) = some (.int .u8 (zs.getD i 0))) ∧ ∀ n ∈ zs, (Lit.int .u8 n).wf = true) :
    Calls P f #[.slice a0 len cap] w fun e w' => e = .returned (.bool true) ∧ Below w.heap.size w w' := by
  have fin : ∀ (bs : List Int) (I : Nat → Prop), (∀ x ∈ bs, 0 ≤ x ∧ x ≤ 255) → bs.length ≤ maxLen → (∀ b, I b → b < w.heap.size) → RC I w [.slice a0 len cap] (.sl (bs.map (.int .u8))) →
      Calls P f #[.slice a0 len cap] w fun e w' => e = .returned (.bool true) ∧ Below w.heap.size w w' := fun bs I h1 h2 h3 h4 =>
    (h bs h1 h2 I w [.slice a0 len cap] h3 ⟨h4, trivial⟩).mono fun e w' ⟨u, p, I', e1, e2, e3, e4⟩ => by
      subst e1 e2
      have := rd_true e4
      subst this
      exact ⟨rfl, e3.os, e3.tape, e3.output, e3.size, e3.block⟩
  rcases w0 with ⟨rfl, rfl, rfl, rfl⟩ | ⟨x, rfl, h1, h2, h3, h4, h5⟩
  · exact fin [] (fun _ => False) (by simp) (by simp) (by simp) (.sl0 none 0 (by unfold maxLen; omega))
  · by_cases hl : len = 0
    · subst hl
      exact fin [] (fun _ => False) (by simp) (by simp) (by simp) (.sl0 _ _ h2)
    · obtain ⟨b, off, rfl, hc⟩ := ints_at h4 (by omega)
      refine fin (zs.take len) (fun k => k = b) ?_ ?_ ?_ ?_
      · intro n hn
        have := h5 n (List.mem_of_mem_take hn)
        simp [Lit.wf, IntKind.min, IntKind.max, IntKind.signed, IntKind.bits] at this
        omega
      · simp; omega
      · rintro k rfl
        have := lt_of_cell (hc 0 (by omega))
        exact this
      · refine .sl _ b off cap 1 len (fun i => [.int .u8 (zs.getD i 0)]) (by simp; omega) h1 h2 rfl (fun _ _ => rfl) ?_ ?_
        · intro i hi j hj
          simp at hj hi
          subst hj
          have := hc i (by omega)
          simpa using this
        · intro i hi
          simp at hi
          simp only [List.getElem_map, List.getElem_take, List.getD_eq_getElem?_getD, List.getElem?_eq_getElem (show i < zs.length by omega), Option.getD_some]
          exact .int _ _
end Go.V

namespace Go.V
/-! more steps in between -/
section bd
variable {k0 : Nat} {L : List (Nat × D)} {S : Store} {R : Env → Store → Prop}
theorem Bd.open (t : Nat) {o n : Nat} (ht : env L t = .own o n) (h : ∀ cap, n ≤ cap → cap ≤ maxLen → R (env ((t, .sub o 0 n cap) :: L)) S) : Bd k0 (env L) S R := fun ρ I w a hs he _ => by
  have g := he t
  rw [ht, rd_own] at g
  obtain ⟨b, sz, cap, cs, E', h1, h2, h3, h4, h5, h6⟩ := g
  refine ⟨_, S, ρ, I, h cap h3 h4, hs, fun i => ?_, Ext.refl _ _ _ _⟩
  rw [env_cons]
  split
  · rename_i e
    subst e
    exact rd_sub.2 ⟨b, sz, cs, E', h1, by rw [Nat.zero_mul]; exact h2, h3, h4, h5, by rw [Nat.zero_add]; exact h6⟩
  · exact he i
theorem Bd.move (t : Nat) {o n : Nat} {ob : Ob} (ht : env L t = .own o n) (hS : S[o]? = some (some ob)) (h : R (env ((t, .own S.length n) :: L)) (S.set o none ++ [some ob])) : Bd k0 (env L) S R := fun ρ I w a hs he _ => by
  obtain ⟨b, sz, h1, h2, cs, h3, h4, h5⟩ := hs.obs o ob hS
  have hlen := hs.len
  have hget : (ρ ++ [some (b, sz)])[S.length]? = some (some (b, sz)) := by rw [List.getElem?_append_right (by omega)]; simp [hlen]
  have hold : ∀ (o' b' sz' : Nat), ρ[o']? = some (some (b', sz')) → (ρ ++ [some (b, sz)])[o']? = some (some (b', sz')) := fun o' b' sz' ho' => by
    rw [List.getElem?_append_left (List.getElem?_eq_some_iff.1 ho').1]; exact ho'
  have t0 : Tr ρ I w (ρ ++ [some (b, sz)]) I w := ⟨fun b hb => ⟨hb, rfl⟩, fun o' b' sz' ho' => ⟨hold o' b' sz' ho', fun c F hc => ⟨c, hc, rfl⟩⟩⟩
  refine ⟨_, _, ρ ++ [some (b, sz)], I, h, app_st hs hS t0 (hs.apart o b sz ob hS h1) (hs.lt o b sz h1) (fun o' sz' ob2 hne hS' h' => hne (hs.inj o' o b sz' sz ob2 ob hS' hS h' h1)) h2 h3 (Nat.le_refl _) h4 (fun _ _ _ _ _ _ _ => rfl) h5, fun i => ?_, ?_⟩
  · rw [env_cons]
    split
    · rename_i e
      subst e
      have g := he i
      rw [ht, rd_own] at g
      obtain ⟨b', sz', cap, cs', E', g1, g2⟩ := g
      rw [h1] at g1
      simp at g1
      obtain ⟨rfl, rfl⟩ := g1
      exact rd_own.2 ⟨b, sz, cap, cs', E', hget, g2⟩
    · exact RD.tr t0 (he i)
  · refine t0.ext rfl rfl rfl (Nat.le_refl _) (by simp) (fun _ _ _ => rfl) (fun _ h => .inl h) fun o' b' sz' ho' => ?_
    rw [List.getElem?_append] at ho'
    split at ho'
    · exact .inl ⟨o', sz', ho'⟩
    · simp only [List.getElem?_singleton] at ho'
      split at ho' <;> simp at ho'
      exact .inl ⟨o, sz, by rw [← ho'.1]; exact h1⟩
theorem Bd.st {E : Env} (S' : Store) (hsub : ∀ (o : Nat) (ob : Ob), S'[o]? = some (some ob) → ∃ ob0, S[o]? = some (some ob0) ∧ ob.ty = ob0.ty ∧ ob.sz = ob0.sz ∧ ob.xs.length ≤ ob0.xs.length ∧ ∀ i (h : i < ob.xs.length) (h' : i < ob0.xs.length), ob.xs[i] = ob0.xs[i]) (hl : S'.length = S.length)
    (h : R E S') : Bd k0 E S R := fun ρ I w a hs he _ => by
  refine ⟨E, S', ρ, I, h, { old := hs.old, obs := ?_, len := by rw [hs.len, hl], lt := hs.lt, apart := ?_, inj := ?_ }, he, Ext.refl _ _ _ _⟩
  · intro o ob ho
    obtain ⟨ob0, g1, g2, g3, g4, g5⟩ := hsub o ob ho
    obtain ⟨b, sz, h1, h2, cs, h3, h4, h5⟩ := hs.obs o ob0 g1
    refine ⟨b, sz, h1, by rw [h2, g3], cs, by rw [g2]; exact h3, Nat.le_trans (Nat.mul_le_mul_right _ g4) h4, fun i hi => ?_⟩
    rw [g5 i hi (by omega)]
    exact h5 i (by omega)
  · intro o b sz ob ho hρ
    obtain ⟨ob0, g1, _⟩ := hsub o ob ho
    exact hs.apart o b sz ob0 g1 hρ
  · intro o o' b sz sz' ob ob' ho ho' hρ hρ'
    obtain ⟨ob0, g1, _⟩ := hsub o ob ho
    obtain ⟨ob0', g1', _⟩ := hsub o' ob' ho'
    exact hs.inj o o' b sz sz' ob0 ob0' g1 g1' hρ hρ'
theorem Bd.drop {E : Env} (o : Nat) (h : R E (S.set o none)) : Bd k0 E S R := by
  refine Bd.st _ (fun q ob hq => ?_) (by simp) h
  rw [List.getElem?_set] at hq
  split at hq
  · split at hq <;> simp at hq
  · exact ⟨ob, hq, rfl, rfl, Nat.le_refl _, fun _ _ _ => rfl⟩
theorem Bd.cut {E : Env} (o m : Nat) {ob : Ob} (hS : S[o]? = some (some ob)) (h : R E (S.set o (some { ob with xs := ob.xs.take m }))) : Bd k0 E S R := by
  refine Bd.st _ (fun q ob' hq => ?_) (by simp) h
  rw [List.getElem?_set] at hq
  split at hq
  · rename_i e
    subst e
    rw [if_pos (List.getElem?_eq_some_iff.1 hS).1] at hq
    simp at hq
    subst hq
    exact ⟨ob, hS, rfl, rfl, by simp; omega, fun i h h' => by simp⟩
  · exact ⟨ob', hq, rfl, rfl, Nat.le_refl _, fun _ _ _ => rfl⟩
end bd

section q
variable {P : Program} {sf : SM} {r : RT} {L : List (Nat × D)} {S : Store} {K : Env → Store → Prop} {t : Nat}
theorem q_slc_o {sz : Nat} {x : Opd} {lo hi : Option Opd} {o n m : Nat} {b : Int} (hx : ev (env L) x = .own o n) (hl : optI (env L) lo 0 = some 0) (hh : optI (env L) hi n = some b) (hr : b = m ∧ m ≤ n)
    (h : RG P sf r (env ((t, .own o m) :: L)) S K) : RG P sf (.op ⟨some t, none, .slc sz x lo hi⟩ r) (env L) S K := by
  obtain ⟨rfl, hr⟩ := hr
  refine qF rfl ?_
  simp only [stepF, hx, asSl, hl, hh]
  exact ⟨⟨trivial, by omega, by omega⟩, by rw [Int.toNat_natCast]; exact h⟩
theorem q_isnil_m {ng : Bool} {x : Opd} {xs : List PV} (hx : ev (env L) x = .pv (.sl xs)) (hs : sOK sf S) (h0 : RG P sf r (env ((t, .pv (.bool ng)) :: L)) S K) (h1 : xs = [] → RG P sf r (env ((t, .pv (.bool !ng)) :: L)) S K) : RG P sf (.op ⟨some t, none, .isnil ng x⟩ r) (env L) S K := by
  refine qX (by cases sf <;> rfl) ?_
  simp only [stepS, hx]
  exact ⟨⟨hs, h0⟩, fun e => ⟨hs, h1 e⟩⟩
variable {tt : Option Nat}
theorem q_slc_m {α : Type} {sz : Nat} {x : Opd} {lo hi : Option Opd} {f : α → PV} {xs : List α} (l m : Nat) {a b : Int} (hx : ev (env L) x = .pv (.sl (xs.map f))) (hl : optI (env L) lo 0 = some a) (hh : optI (env L) hi ((xs.map f).length : Nat) = some b)
    (hr : a = l ∧ b = m ∧ l ≤ m ∧ m ≤ xs.length) (hsz : ∀ a, (f a).nc = sz) (h : RG P sf r (env ((t, .pv (.sl (((xs.take m).drop l).map f))) :: L)) S K) : RG P sf (.op ⟨some t, none, .slc sz x lo hi⟩ r) (env L) S K := by
  obtain ⟨rfl, rfl, h1, h2⟩ := hr
  refine q_slc (xs := xs.map f) (by rw [hx]; rfl) hl hh ⟨by omega, by omega, by simp; omega⟩ (fun x hx => by obtain ⟨y, _, rfl⟩ := List.mem_map.1 hx; exact hsz y) ?_
  rw [hx]
  simp only [slR, Int.toNat_natCast, ← List.map_take, ← List.map_drop]
  exact h
theorem q_beq {ng : Bool} {x y : Opd} {a b : Bool} (hx : ev (env L) x = .pv (.bool a)) (hy : ev (env L) y = .pv (.bool b)) (h : RG P sf r (env ((t, .pv (.bool (if ng then !(a == b) else a == b))) :: L)) S K) : RG P sf (.op ⟨some t, none, .beq ng x y⟩ r) (env L) S K := by
  refine qF rfl ?_; simp only [stepF, hx, hy]; exact h
theorem Sub.app (S T : Store) : Sub S (S ++ T) := Sub.of_eq fun o ob h => by
  rw [List.getElem?_append_left (List.getElem?_eq_some_iff.1 h).1]; exact h
theorem Sub.trans {A B C : Store} (h : Sub A B) (k : Sub B C) : Sub A C := fun o ob g => by
  obtain ⟨ob1, a1, a2, a3, ys, a4⟩ := h o ob g
  obtain ⟨ob2, b1, b2, b3, zs, b4⟩ := k o ob1 a1
  exact ⟨ob2, b1, a2.trans b2, a3.trans b3, ys ++ zs, by rw [b4, a4, List.append_assoc]⟩
theorem Sub.set {A S : Store} (h : Sub A S) (o : Nat) (x : Option Ob) (ho : ∀ ob, A[o]? ≠ some (some ob)) : Sub A (S.set o x) := fun q ob g => by
  have hq : q ≠ o := fun e => ho ob (e ▸ g)
  rw [List.getElem?_set_ne (fun e => hq e.symm)]
  exact h q ob g
theorem q_app_z {ty sz bytes : Nat} {x y : Opd} {ys : List D} (hx : ev (env L) x = .nils) (hy : elemsOf S sz (ev (env L) y) = some ys) (hc : ys.all cellOK = true) (hb : ys.length * bytes ≤ 140737488355328 ∧ ys.length ≤ maxLen)
    (h : sOK sf (S ++ [obD ty sz ys]) ∧ RG P sf r (env ((t, ownD S.length ys) :: L)) (S ++ [obD ty sz ys]) K) : RG P sf (.op ⟨some t, none, .app ty sz bytes x y⟩ r) (env L) S K := by
  refine qX (by cases sf <;> rfl) ?_
  simp only [stepS, hy]
  exact ⟨hc, .inl ⟨hx, hb, h⟩⟩
theorem q_app_d {ty sz bytes : Nat} {x y : Opd} {xs ys : List D} {o : Nat} (hx : ev (env L) x = ownD o xs) (hy : elemsOf S sz (ev (env L) y) = some ys) (hc : ys.all cellOK = true) (hS : S[o]? = some (obD ty sz xs)) (hb : (xs.length + ys.length) * bytes ≤ 140737488355328 ∧ xs.length + ys.length ≤ maxLen)
    (h : sOK sf (S.set o none ++ [obD ty sz (xs ++ ys)]) ∧ RG P sf r (env ((t, ownD S.length (xs ++ ys)) :: L)) (S.set o none ++ [obD ty sz (xs ++ ys)]) K) : RG P sf (.op ⟨some t, none, .app ty sz bytes x y⟩ r) (env L) S K := by
  refine qX (by cases sf <;> rfl) ?_
  simp only [stepS, hy]
  exact ⟨hc, .inr (.inl ⟨o, xs, hx, hS, hb, h⟩)⟩
theorem q_len_d {x : Opd} {o : Nat} {xs : List D} (hx : ev (env L) x = ownD o xs) (h : RG P sf r (env ((t, .pv (.int .i64 xs.length)) :: L)) S K) : RG P sf (.op ⟨some t, none, .len x⟩ r) (env L) S K := by
  cases xs with
  | nil => exact q_len_n hx h
  | cons a r => exact q_len_o hx h
theorem q_idx_d {ty sz : Nat} {x i : Opd} {o : Nat} {xs : List D} {k : IntKind} {n : Int} (hx : ev (env L) x = ownD o xs) (hi : ev (env L) i = .pv (.int k n)) (h0 : 0 ≤ n) (h1 : n < xs.length) (hS : (fs sf S)[o]? = some (obD ty sz xs))
    (h : RG P sf r (env ((t, .ptr o n.toNat 0) :: L)) S K) : RG P sf (.op ⟨some t, none, .idx sz x i⟩ r) (env L) S K := by
  cases xs with
  | nil => simp at h1; omega
  | cons a r => exact q_idx_o (ob := ⟨ty, sz, a :: r⟩) hx hi h0 (by simpa using h1) hS rfl h
end q

section bd
variable {k0 : Nat} {L : List (Nat × D)} {S : Store} {R : Env → Store → Prop}
theorem Bd.pure (t o : Nat) (ty sz : Nat) {xs : List D} {ps : List PV} (ht : env L t = ownD o xs) (hS : S[o]? = some (obD ty sz xs)) (hps : toPVs xs = some ps)
    (h : R (env ((t, .pv (.sl ps)) :: L)) (S.set o none)) : Bd k0 (env L) S R := fun ρ I w a hs he _ => by
  have hne : ∀ q (x : Option Ob), (S.set o none)[q]? = some x → (q ≠ o ∧ S[q]? = some x) ∨ x = none := fun q x hq => by
    rw [List.getElem?_set] at hq
    split at hq
    · split at hq <;> simp at hq
      exact .inr hq.symm
    · exact .inl ⟨fun e => by subst e; contradiction, hq⟩
  cases xs with
  | nil =>
    simp [toPVs] at hps; subst hps
    refine ⟨_, _, ρ, I, h, { old := hs.old, obs := ?_, len := by simp [hs.len], lt := hs.lt, apart := ?_, inj := ?_ }, fun i => ?_, Ext.refl _ _ _ _⟩
    · intro q ob hq
      rcases hne q _ hq with ⟨_, h2⟩ | h2
      · exact hs.obs q ob h2
      · cases h2
    · intro q b sz' ob hq hρ
      rcases hne q _ hq with ⟨_, h2⟩ | h2
      · exact hs.apart q b sz' ob h2 hρ
      · cases h2
    · intro q q' b sz1 sz2 ob ob' hq hq' hρ hρ'
      rcases hne q _ hq with ⟨_, h2⟩ | h2
      · rcases hne q' _ hq' with ⟨_, h3⟩ | h3
        · exact hs.inj q q' b sz1 sz2 ob ob' h2 h3 hρ hρ'
        · cases h3
      · cases h2
    · rw [env_cons]
      split
      · rename_i e
        subst e
        have g := he i
        rw [ht] at g
        obtain ⟨a', hv⟩ := rd_nils.1 g
        rw [hv]
        exact (rd_pv rfl).2 (.sl0 _ _ (by unfold maxLen; omega))
      · exact he i
  | cons x r =>
    have hS' : S[o]? = some (some ⟨ty, sz, x :: r⟩) := hS
    obtain ⟨b, sz0, h1, h2, cs, h3, h4, h5⟩ := hs.obs o _ hS'
    obtain ⟨hl, hel⟩ := toPVs_get hps
    let I' : Nat → Prop := fun y => I y ∨ y = b
    have hII : ∀ b, I b → I' b := fun _ h => .inl h
    have kp : Keeps ρ I w w := ⟨fun _ _ => rfl, fun _ _ _ _ cs E hc => ⟨cs, hc, rfl⟩⟩
    refine ⟨_, _, ρ, I', h, { old := ?_, obs := ?_, len := by simp [hs.len], lt := hs.lt, apart := ?_, inj := ?_ }, fun i => ?_, ?_⟩
    · rintro q (hq | rfl)
      · exact hs.old q hq
      · exact hs.lt o _ sz0 h1
    · intro q ob hq
      rcases hne q _ hq with ⟨_, g2⟩ | g2
      · obtain ⟨b', sz', k1, k2, cs', k3, k4, k5⟩ := hs.obs q ob g2
        exact ⟨b', sz', k1, k2, cs', k3, k4, fun i hi => RDc.mono hII kp (k5 i hi)⟩
      · cases g2
    · intro q b' sz' ob hq hρ
      rcases hne q _ hq with ⟨g1, g2⟩ | g2
      · rintro (hI | rfl)
        · exact hs.apart q b' sz' ob g2 hρ hI
        · exact g1 (hs.inj q o _ sz' sz0 ob _ g2 hS' hρ h1)
      · cases g2
    · intro q q' b' sz1 sz2 ob ob' hq hq' hρ hρ'
      rcases hne q _ hq with ⟨_, g2⟩ | g2
      · rcases hne q' _ hq' with ⟨_, g3⟩ | g3
        · exact hs.inj q q' b' sz1 sz2 ob ob' g2 g3 hρ hρ'
        · cases g3
      · cases g2
    · rw [env_cons]
      split
      · rename_i e
        subst e
        have g := he i
        rw [ht] at g
        obtain ⟨b', sz', cap, cs', E', k1, hv, k3, k4, k5, k6⟩ := rd_own.1 g
        rw [h1] at k1
        simp at k1
        obtain ⟨rfl, rfl⟩ := k1
        rw [hv]
        have hpl : r.length + 1 = ps.length := by simpa using hl.symm
        refine (rd_pv rfl).2 (.sl ps b 0 cap sz0 _ (fun i => (cs.toList.drop (i * sz0)).take sz0) hpl k3 k4 (.inr rfl) (fun i hi => ?_) (fun i hi => ?_) (fun i hi => ?_))
        · have : (i + 1) * sz0 ≤ (x :: r).length * sz0 := Nat.mul_le_mul_right _ (by simp; omega)
          rw [Nat.add_mul] at this
          have h4' : (x :: r).length * sz0 ≤ cs.size := h4
          simp only [List.length_take, List.length_drop, Array.length_toList]
          omega
        · intro j hj
          have : (i + 1) * sz0 ≤ (x :: r).length * sz0 := Nat.mul_le_mul_right _ (by simp; omega)
          rw [Nat.add_mul] at this
          have h4' : (x :: r).length * sz0 ≤ cs.size := h4
          have hj' : j < sz0 ∧ i * sz0 + j < cs.size := by simp at hj; omega
          simp only [World.cell?, h3, Option.isSome_none, Bool.false_eq_true, if_false, Nat.zero_add]
          rw [Array.getElem?_eq_getElem hj'.2]
          simp
        · have hx : i < (x :: r).length := by simp; omega
          exact (toPV_rdc (hel i hx hi) (h5 i hx)).mono (fun _ h => .inl h) fun _ _ => rfl
      · exact RD.mono hII kp (he i)
    · exact {
        os := rfl
        tape := rfl
        output := rfl
        size := Nat.le_refl _
        kept := Nat.min_le_right _ _
        block := fun _ _ _ => rfl
        im := fun _ h => ⟨.inl h, rfl⟩
        inew := fun q hq => hq.elim .inl fun e => .inr (.inr ⟨o, sz0, e ▸ h1⟩)
        rnew := fun o b sz ho => .inl ⟨o, sz, ho⟩
        fix := fun o b sz _ ho => ⟨ho, fun cs E hc => ⟨cs, hc, rfl⟩⟩ }
end bd

theorem ownD_len {o : Nat} : ∀ {xs ys : List D}, xs.length = ys.length → ownD o xs = ownD o ys
  | [], [], _ => rfl
  | _ :: r, _ :: r', h => by have : r.length = r'.length := by simpa using h
                             simp [ownD, this]
  | [], _ :: _, h => by simp at h
  | _ :: _, [], h => by simp at h
theorem Bd.pureB {k0 : Nat} {L : List (Nat × D)} {S : Store} {R : Env → Store → Prop} (t o : Nat) (ty sz : Nat) {xs : List D} {ps : List PV} (ht : env L t = ownD o xs) (hS : S[o]? = some (obD ty sz xs)) (hps : toPVs xs = some ps)
    (h : Bd k0 (env ((t, .pv (.sl ps)) :: L)) (S.set o none) R) : Bd k0 (env L) S R :=
  Bd.then (Bd.pure t o ty sz (R := fun E S' => E = env ((t, .pv (.sl ps)) :: L) ∧ S' = S.set o none) ht hS hps ⟨rfl, rfl⟩) (by rintro _ _ ⟨rfl, rfl⟩; exact h)
theorem Bd.renL {k0 : Nat} {E : Env} {S S' : Store} {R : Env → Store → Prop} (os : List Nat) (h0 : ∀ i, i < k0 → os[i]? = some i) (hnd : os.Nodup) (L : List (Nat × D)) (h1 : keepOK (fun t => mpD (inv os) (E t)) L) (hS : subS os S = S') (h : R (env L) S') : Bd k0 E S R := by
  refine Bd.ren os h0 hnd L ?_ (hS ▸ h)
  clear h hS
  induction L with
  | nil => intro p hp; cases hp
  | cons a L ih =>
    intro p hp
    rcases List.mem_cons.1 hp with rfl | hp
    · exact h1.1
    · exact ih h1.2 p hp
theorem isOne_own {o : Nat} {xs : List D} : isOne (ownD o xs) = true := by cases xs <;> rfl
theorem isCell_own {o : Nat} {xs : List D} : isCell (ownD o xs) = true := by cases xs <;> rfl
theorem isCell_sl {xs : List PV} : isCell (.pv (.sl xs)) = true := rfl
theorem isCell_int {k : IntKind} {n : Int} : isCell (.pv (.int k n)) = true := rfl
theorem isCell_nils : isCell .nils = true := rfl
theorem cellsD_own {o : Nat} {xs : List D} : cellsD (ownD o xs) = some [ownD o xs] := by cases xs <;> rfl
theorem posOf_own {os : List Nat} {o k : Nat} (h : posOf os o = some k) : ∀ {xs : List D}, mpD (inv os) (ownD o xs) = ownD k xs
  | [] => rfl
  | _ :: _ => by simp [ownD, mpD, mpS, mp1, mp0, inv, h]
theorem inv_own {os : List Nat} {o k : Nat} {xs : List D} (h : posOf os o = some k) : mpD (inv os) (ownD o xs) = ownD k xs := posOf_own h
theorem Bd.pad {k0 : Nat} {E : Env} {S : Store} {R : Env → Store → Prop} (h : R E (S ++ [none])) : Bd k0 E S R := fun ρ I w a hs he _ => by
  have hold : ∀ (o' b' sz' : Nat), ρ[o']? = some (some (b', sz')) → (ρ ++ [none])[o']? = some (some (b', sz')) := fun o' b' sz' ho' => by
    rw [List.getElem?_append_left (List.getElem?_eq_some_iff.1 ho').1]; exact ho'
  have t0 : Tr ρ I w (ρ ++ [none]) I w := ⟨fun b hb => ⟨hb, rfl⟩, fun o' b' sz' ho' => ⟨hold o' b' sz' ho', fun c F hc => ⟨c, hc, rfl⟩⟩⟩
  obtain ⟨ρ', I', h1, _, _⟩ := seen_pad (S := S) (d := .any) (S1 := S) ρ I w Go.undef (Nat.le_refl _) hs rd_any
  refine ⟨E, _, ρ ++ [none], I, h, ?_, he.tr t0, ?_⟩
  · have hback : ∀ (o' b' sz' : Nat), (ρ ++ [none])[o']? = some (some (b', sz')) → ρ[o']? = some (some (b', sz')) := fun o' b' sz' ho' => by
      rw [List.getElem?_append] at ho'
      split at ho'
      · exact ho'
      · simp only [List.getElem?_singleton] at ho'
        split at ho' <;> simp at ho'
    have hSb : ∀ (o' : Nat) (ob : Ob), (S ++ [none])[o']? = some (some ob) → S[o']? = some (some ob) := fun o' ob ho' => by
      rw [List.getElem?_append] at ho'
      split at ho'
      · exact ho'
      · simp only [List.getElem?_singleton] at ho'
        split at ho' <;> simp at ho'
    exact { len := by simp [hs.len], old := hs.old, obs := fun o' ob ho' => by
              obtain ⟨b, sz, h1, h2, cs, h3, h4, h5⟩ := hs.obs o' ob (hSb o' ob ho')
              exact ⟨b, sz, hold _ _ _ h1, h2, cs, h3, h4, fun i hi => (h5 i hi).tr t0⟩,
            lt := fun o b sz ho => hs.lt o b sz (hback o b sz ho), apart := fun o b sz ob hS ho => hs.apart o b sz ob (hSb o ob hS) (hback o b sz ho),
            inj := fun o o' b sz sz' ob ob' h1 h2 h3 h4 => hs.inj o o' b sz sz' ob ob' (hSb _ _ h1) (hSb _ _ h2) (hback _ _ _ h3) (hback _ _ _ h4) }
  · refine t0.ext rfl rfl rfl (Nat.le_refl _) (by simp) (fun _ _ _ => rfl) (fun _ h => .inl h) fun o' b' sz' ho' => ?_
    rw [List.getElem?_append] at ho'
    split at ho'
    · exact .inl ⟨o', sz', ho'⟩
    · simp only [List.getElem?_singleton] at ho'
      split at ho' <;> simp at ho'

theorem Bd.frzF {k0 : Nat} {E : Env} {S : Store} {R : Env → Store → Prop} (k o1 i j : Nat) (ty sz : Nat) {xs : List D} {ps : List PV} {ob : Ob} {cs : List D} (hk : k ≠ o1) (hS : S[k]? = some (obD ty sz xs)) (hps : toPVs xs = some ps) (hO : S[o1]? = some (some ob)) (hi : ob.xs[i]? = some (.agg cs)) (hj : cs[j]? = some (ownD k xs))
    (h : R E ((S.set k none).set o1 (some { ob with xs := ob.xs.set i (.agg (cs.set j (.pv (.sl ps)))) }))) : Bd k0 E S R := fun ρ I w a hs he _ => by
  -- the blocks that may be read from now on
  obtain ⟨I', hII, hI'old, hI'new, hrd⟩ : ∃ I' : Nat → Prop, (∀ b, I b → I' b) ∧ (∀ b, I' b → b < w.heap.size) ∧ (∀ b, I' b → I b ∨ ∃ sz0, ρ[k]? = some (some (b, sz0)) ∧ ∃ ob0, S[k]? = some (some ob0)) ∧
      ∀ v, R0 ρ I w v (ownD k xs) → RC I' w [v] (.sl ps) := by
    cases xs with
    | nil =>
      simp [toPVs] at hps; subst hps
      exact ⟨I, fun _ h => h, hs.old, fun _ h => .inl h, fun v hv => by obtain ⟨a', rfl⟩ := hv; exact .sl0 _ _ (by unfold maxLen; omega)⟩
    | cons x r =>
      have hS' : S[k]? = some (some ⟨ty, sz, x :: r⟩) := hS
      obtain ⟨b, sz0, h1, h2, cs0, h3, h4, h5⟩ := hs.obs k _ hS'
      obtain ⟨hl, hel⟩ := toPVs_get hps
      refine ⟨fun y => I y ∨ y = b, fun _ h => .inl h, fun y hy => ?_, fun y hy => ?_, fun v hv => ?_⟩
      · rcases hy with hy | rfl
        · exact hs.old y hy
        · exact hs.lt k _ sz0 h1
      · rcases hy with hy | rfl
        · exact .inl hy
        · exact .inr ⟨sz0, h1, _, hS'⟩
      · obtain ⟨b', sz', cap, cs', E', k1, hv, k3, k4, k5, k6⟩ := hv
        rw [h1] at k1
        simp at k1
        obtain ⟨rfl, rfl⟩ := k1
        rw [hv]
        have hpl : r.length + 1 = ps.length := by simpa using hl.symm
        refine .sl ps b 0 cap sz0 _ (fun i => (cs0.toList.drop (i * sz0)).take sz0) hpl k3 k4 (.inr rfl) (fun i hi => ?_) (fun i hi => ?_) (fun i hi => ?_)
        · have : (i + 1) * sz0 ≤ (x :: r).length * sz0 := Nat.mul_le_mul_right _ (by simp; omega)
          rw [Nat.add_mul] at this
          have h4' : (x :: r).length * sz0 ≤ cs0.size := h4
          simp only [List.length_take, List.length_drop, Array.length_toList]
          omega
        · intro j hj
          have : (i + 1) * sz0 ≤ (x :: r).length * sz0 := Nat.mul_le_mul_right _ (by simp; omega)
          rw [Nat.add_mul] at this
          have h4' : (x :: r).length * sz0 ≤ cs0.size := h4
          have hj' : j < sz0 ∧ i * sz0 + j < cs0.size := by simp at hj; omega
          simp only [World.cell?, h3, Option.isSome_none, Bool.false_eq_true, if_false, Nat.zero_add]
          rw [Array.getElem?_eq_getElem hj'.2]
          simp
        · have hx : i < (x :: r).length := by simp; omega
          exact (toPV_rdc (hel i hx hi) (h5 i hx)).mono (fun _ h => .inl h) fun _ _ => rfl
  have kp : Keeps ρ I w w := ⟨fun _ _ => rfl, fun _ _ _ _ cs E hc => ⟨cs, hc, rfl⟩⟩
  have hget : ∀ q (ob' : Ob), ((S.set k none).set o1 (some { ob with xs := ob.xs.set i (.agg (cs.set j (.pv (.sl ps)))) }))[q]? = some (some ob') → q ≠ k ∧ ∃ ob0, S[q]? = some (some ob0) ∧ ((q ≠ o1 ∧ ob' = ob0) ∨ (q = o1 ∧ ob0 = ob ∧ ob' = { ob with xs := ob.xs.set i (.agg (cs.set j (.pv (.sl ps)))) })) := fun q ob' hq => by
    rw [List.getElem?_set] at hq
    split at hq
    · rename_i e
      subst e
      split at hq <;> simp at hq
      exact ⟨fun e => hk e.symm, ob, hO, .inr ⟨rfl, rfl, hq.symm⟩⟩
    · rename_i hne
      rw [List.getElem?_set] at hq
      split at hq
      · split at hq <;> simp at hq
      · rename_i hne2
        exact ⟨fun e => hne2 e.symm, ob', hq, .inl ⟨fun e => hne e.symm, rfl⟩⟩
  refine ⟨E, _, ρ, I', h, { old := hI'old, obs := ?_, len := by simp [hs.len], lt := hs.lt, apart := ?_, inj := ?_ }, fun t => RD.mono hII kp (he t), ?_⟩
  · intro q ob' hq
    obtain ⟨hqk, ob0, g1, g2⟩ := hget q ob' hq
    obtain ⟨b, sz', k1, k2, cs0, k3, k4, k5⟩ := hs.obs q ob0 g1
    rcases g2 with ⟨_, rfl⟩ | ⟨rfl, rfl, rfl⟩
    · exact ⟨b, sz', k1, k2, cs0, k3, k4, fun i hi => RDc.mono hII kp (k5 i hi)⟩
    · refine ⟨b, sz', k1, k2, cs0, k3, by simpa using k4, fun q' hq' => ?_⟩
      have hq2 : q' < ob0.xs.length := by simpa using hq'
      have old := k5 q' hq2
      by_cases e : q' = i
      · subst e
        rw [List.getElem?_eq_getElem hq2] at hi
        simp at hi
        simp only [List.getElem_set_self]
        rw [hi] at old
        refine ⟨by simpa using old.1, fun m hm hm' => ?_⟩
        have hm2 : m < cs.length := by simpa using hm'
        have c0 := old.2 m hm hm2
        by_cases em : m = j
        · subst em
          simp only [List.getElem_set_self]
          rw [List.getElem?_eq_getElem hm2] at hj
          simp at hj
          rw [hj] at c0
          exact hrd _ (by cases xs <;> exact c0)
        · rw [List.getElem_set_ne (fun e => em e.symm)]
          exact R1.mono hII kp c0
      · simp only [List.getElem_set_ne (fun e' => e e'.symm)]
        exact RDc.mono hII kp old
  · intro q b' sz' ob' hq hρ hI
    obtain ⟨hqk, ob0, g1, g2⟩ := hget q ob' hq
    rcases hI'new b' hI with hI | ⟨sz0, hk1, ob1, hk2⟩
    · exact hs.apart q b' sz' ob0 g1 hρ hI
    · exact hqk (hs.inj q k b' sz' sz0 ob0 ob1 g1 hk2 hρ hk1)
  · intro q q' b' sz1 sz2 obq obq' hq hq' hρ hρ'
    obtain ⟨_, ob0, g1, _⟩ := hget q obq hq
    obtain ⟨_, ob0', g1', _⟩ := hget q' obq' hq'
    exact hs.inj q q' b' sz1 sz2 ob0 ob0' g1 g1' hρ hρ'
  · exact {
      os := rfl
      tape := rfl
      output := rfl
      size := Nat.le_refl _
      kept := Nat.min_le_right _ _
      block := fun _ _ _ => rfl
      im := fun _ h => ⟨hII _ h, rfl⟩
      inew := fun q hq => (hI'new q hq).elim .inl fun ⟨sz0, h1, _⟩ => .inr (.inr ⟨k, sz0, h1⟩)
      rnew := fun o b sz ho => .inl ⟨o, sz, ho⟩
      fix := fun o b sz _ ho => ⟨ho, fun cs E hc => ⟨cs, hc, rfl⟩⟩ }
theorem Bd.frzFB {k0 : Nat} {E : Env} {S : Store} {R : Env → Store → Prop} (k o1 i j : Nat) (ty sz : Nat) {xs : List D} {ps : List PV} {ob : Ob} {cs : List D} (hk : k ≠ o1) (hS : S[k]? = some (obD ty sz xs)) (hps : toPVs xs = some ps) (hO : S[o1]? = some (some ob)) (hi : ob.xs[i]? = some (.agg cs)) (hj : cs[j]? = some (ownD k xs))
    (h : Bd k0 E ((S.set k none).set o1 (some { ob with xs := ob.xs.set i (.agg (cs.set j (.pv (.sl ps)))) })) R) : Bd k0 E S R :=
  Bd.then (Bd.frzF (R := fun E' S' => E' = E ∧ S' = (S.set k none).set o1 (some { ob with xs := ob.xs.set i (.agg (cs.set j (.pv (.sl ps)))) })) k o1 i j ty sz hk hS hps hO hi hj ⟨rfl, rfl⟩) (by rintro _ _ ⟨rfl, rfl⟩; exact h)
theorem mp1_own {os : List Nat} {o k : Nat} (h : posOf os o = some k) : ∀ {xs : List D}, mp1 (inv os) (ownD o xs) = ownD k xs
  | [] => rfl
  | _ :: _ => by simp [ownD, mp1, mp0, inv, h]
def onePV : PV → Bool
  | .agg _ => false
  | .tup _ => false
  | _ => true
theorem Bd.aggP {k0 : Nat} {E : Env} {S : Store} {R : Env → Store → Prop} (o i : Nat) {ob : Ob} (ps : List PV) (hO : S[o]? = some (some ob)) (hi : ob.xs[i]? = some (.agg (ps.map .pv)))
    (h : Bd k0 E (S.set o (some { ob with xs := ob.xs.set i (.pv (.agg ps)) })) R) : Bd k0 E S R := by
  refine Bd.then (R' := fun E' S' => E' = E ∧ S' = S.set o (some { ob with xs := ob.xs.set i (.pv (.agg ps)) })) ?_ (by rintro _ _ ⟨rfl, rfl⟩; exact h)
  intro ρ I w a hs he hk
  have hget : ∀ q (ob' : Ob), (S.set o (some { ob with xs := ob.xs.set i (.pv (.agg ps)) }))[q]? = some (some ob') → ∃ ob0, S[q]? = some (some ob0) ∧ ((q ≠ o ∧ ob' = ob0) ∨ (q = o ∧ ob0 = ob ∧ ob' = { ob with xs := ob.xs.set i (.pv (.agg ps)) })) := fun q ob' hq => by
    rw [List.getElem?_set] at hq
    split at hq
    · rename_i e
      subst e
      split at hq <;> simp at hq
      exact ⟨ob, hO, .inr ⟨rfl, rfl, hq.symm⟩⟩
    · rename_i hne
      exact ⟨ob', hq, .inl ⟨fun e => hne e.symm, rfl⟩⟩
  refine ⟨E, _, ρ, I, ⟨rfl, rfl⟩, { old := hs.old, obs := ?_, len := by simp [hs.len], lt := hs.lt, apart := ?_, inj := ?_ }, he, Ext.refl _ _ _ _⟩
  · intro q ob' hq
    obtain ⟨ob0, g1, g2⟩ := hget q ob' hq
    obtain ⟨b, sz', k1, k2, cs0, k3, k4, k5⟩ := hs.obs q ob0 g1
    rcases g2 with ⟨_, rfl⟩ | ⟨rfl, rfl, rfl⟩
    · exact ⟨b, sz', k1, k2, cs0, k3, k4, k5⟩
    · refine ⟨b, sz', k1, k2, cs0, k3, by simpa using k4, fun q' hq' => ?_⟩
      have hq2 : q' < ob0.xs.length := by simpa using hq'
      have old := k5 q' hq2
      by_cases e : q' = i
      · subst e
        rw [List.getElem?_eq_getElem hq2] at hi
        simp at hi
        simp only [List.getElem_set_self]
        rw [hi] at old
        refine RC.agg _ _ (by simpa using old.1) fun m hm hm' => ?_
        have := old.2 m hm (by simpa using hm')
        simp only [List.getElem_map] at this
        exact this
      · simp only [List.getElem_set_ne (fun e' => e e'.symm)]
        exact old
  · intro q b' sz' ob' hq hρ
    obtain ⟨ob0, g1, _⟩ := hget q ob' hq
    exact hs.apart q b' sz' ob0 g1 hρ
  · intro q q' b' sz1 sz2 obq obq' hq hq' hρ hρ'
    obtain ⟨ob0, g1, _⟩ := hget q obq hq
    obtain ⟨ob0', g1', _⟩ := hget q' obq' hq'
    exact hs.inj q q' b' sz1 sz2 ob0 ob0' g1 g1' hρ hρ'
section q
variable {P : Program} {sf : SM} {r : RT} {L : List (Nat × D)} {S : Store} {K : Env → Store → Prop} {t : Nat}
theorem q_eql_v (v : Bool) {x y : Opd} {k : IntKind} {a b : Int} (hx : ev (env L) x = .pv (.int k a)) (hy : ev (env L) y = .pv (.int k b)) (hv : (decide (a = b)) = v) (h : RG P sf r (env ((t, .pv (.bool v)) :: L)) S K) : RG P sf (.op ⟨some t, none, .bin .eql x y⟩ r) (env L) S K := by
  subst hv; exact q_eql hx hy h
theorem q_beq_v (v : Bool) {ng : Bool} {x y : Opd} {a b : Bool} (hx : ev (env L) x = .pv (.bool a)) (hy : ev (env L) y = .pv (.bool b)) (hv : (if ng then !(a == b) else a == b) = v) (h : RG P sf r (env ((t, .pv (.bool v)) :: L)) S K) : RG P sf (.op ⟨some t, none, .beq ng x y⟩ r) (env L) S K := by
  subst hv; exact q_beq hx hy h
theorem q_calle {f : FuncId} {args : List Opd} {ps : List PV} {Post : PV → Prop} (hm : cOK sf = true) (hc : PCon P f ps Post) (ha : toPVs (args.map (ev (env L))) = some ps) (hs : sOK sf S) (h : ∀ p, Post p → RG P sf r (env ((t, ofPV p) :: L)) S K) : RG P sf (.op ⟨some t, none, .call f args⟩ r) (env L) S K :=
  q_call hm (CallS.pure hc ha fun p hp => ⟨hs, h p hp⟩)
end q

inductive SubL : Store → Store → Prop
  | nil {S : Store} : SubL [] S
  | none {A S : Store} {x : Option Ob} (h : SubL A S) : SubL (none :: A) (x :: S)
  | some {A S : Store} {a : Ob} (h : SubL A S) : SubL (some a :: A) (some a :: S)
  | eq {A S : Store} {a : Option Ob} (h : SubL A S) : SubL (a :: A) (a :: S)
  | sh {A S : Store} {ty sz : Nat} {xs : List D} (h : SubL A S) : SubL (some ⟨ty, sz, []⟩ :: A) (some ⟨ty, sz, xs⟩ :: S)
theorem SubL.sub {A S : Store} (h : SubL A S) : Sub A S := by
  induction h with
  | nil => exact Sub.nil
  | none h ih =>
    intro o ob g
    cases o with
    | zero => simp at g
    | succ o => exact ih o ob (by simpa using g)
  | some h ih =>
    intro o ob g
    cases o with
    | zero => exact ⟨ob, by simpa using g, rfl, rfl, [], by simp⟩
    | succ o => exact ih o ob (by simpa using g)
  | eq h ih =>
    intro o ob g
    cases o with
    | zero => exact ⟨ob, by simpa using g, rfl, rfl, [], by simp⟩
    | succ o => exact ih o ob (by simpa using g)
  | sh h ih =>
    intro o ob g
    cases o with
    | zero =>
      simp at g
      subst g
      exact ⟨_, rfl, rfl, rfl, _, rfl⟩
    | succ o => exact ih o ob (by simpa using g)
section q
variable {P : Program} {sf : SM} {r : RT} {L : List (Nat × D)} {S : Store} {K : Env → Store → Prop} {t : Nat} {α : Type} [Inhabited α]
theorem q_idx_c {sz : Nat} {x i : Opd} {f : α → PV} {xs : List α} {k : IntKind} (j : Nat) (hx : ev (env L) x = .pv (.sl (xs.map f))) (hi : ev (env L) i = .pv (.int k j)) (h1 : j < xs.length) (hsz : ∀ a, (f a).nc = sz)
    (h : RG P sf r (env ((t, .pv (.con (f (nth xs j)))) :: L)) S K) : RG P sf (.op ⟨some t, none, .idx sz x i⟩ r) (env L) S K :=
  q_idx_m hx hi (by omega) (by omega) hsz (by rw [Int.toNat_natCast]; exact h)
theorem q_idx_n {sz : Nat} {x i : Opd} {f : α → PV} {xs : List α} {k : IntKind} {n : Int} (j : Nat) (hx : ev (env L) x = .pv (.sl (xs.map f))) (hi : ev (env L) i = .pv (.int k n)) (hj : n = j) (h1 : j < xs.length) (hsz : ∀ a, (f a).nc = sz)
    (h : RG P sf r (env ((t, .pv (.con (f (nth xs j)))) :: L)) S K) : RG P sf (.op ⟨some t, none, .idx sz x i⟩ r) (env L) S K := by
  subst hj; exact q_idx_c j hx hi h1 hsz h
end q

/-! pure contracts out of contracts over own objects -/
def Reads (d : D) (S : Store) (p : PV) : Prop :=
  ∀ (ρ : Rho) (I : Nat → Prop) (w : World) (u : Value), St ρ I w S → RD ρ I w u d → RD [] (allI ρ I) w u (ofPV p)
theorem RVs_RDs {I : Nat → Prop} {w : World} : ∀ {vs : List Value} {ps : List PV}, RVs I w vs ps → RDs [] I w vs (ps.map .pv)
  | [], [], _ => trivial
  | _ :: _, _ :: _, h => ⟨h.1, RVs_RDs h.2⟩
  | [], _ :: _, h => h.elim
  | _ :: _, [], h => h.elim
theorem PCon.of_callS {P : Program} {f : FuncId} {ps : List PV} {c : D → Store → Prop} {Post : PV → Prop} (h : CallS P f (ps.map .pv) [] c) (hp : ∀ d S, c d S → ∃ p, Post p ∧ Reads d S p) : PCon P f ps Post := fun I w vs hI hv => by
  have hst : St [] I w [] := ⟨⟨hI, by simp⟩, rfl, by simp, by simp, by simp⟩
  refine (h [] I w vs hst (RVs_RDs hv)).mono fun e w' ⟨u, d, ρ', I', S', h1, h2, h3, h4, hext⟩ => ?_
  obtain ⟨p, hpost, hr⟩ := hp d S' h2
  refine ⟨u, p, allI ρ' I', h1, hpost, ?_, hr ρ' I' w' u h3 h4⟩
  exact {
    os := hext.os
    tape := hext.tape
    output := hext.output
    size := hext.size
    block := fun k hk => hext.block k hk (by simp)
    imono := fun b hb => .inl (hext.im b hb).1
    inew := fun b hb => by
      rcases hb with hb | ⟨o, sz, ho⟩
      · rcases hext.inew b hb with h1 | h1 | ⟨o, sz, h1⟩
        · exact .inl h1
        · exact .inr ⟨h1, h3.old b hb⟩
        · simp at h1
      · rcases hext.rnew o b sz ho with ⟨o', sz', h1⟩ | h1
        · simp at h1
        · exact .inr ⟨h1, h3.lt o b sz ho⟩ }
theorem reads_own {o ty sz : Nat} {S : Store} {xs : List D} {ps : List PV} (hS : S[o]? = some (obD ty sz xs)) (hps : optMap (toR 4 S) xs = some ps) : Reads (ownD o xs) S (.sl ps) := fun ρ I w u hs hr => by
  cases xs with
  | nil =>
    simp [optMap] at hps; subst hps
    obtain ⟨a, hv⟩ := rd_nils.1 hr
    rw [hv]
    exact (rd_pv rfl).2 (.sl0 _ _ (by unfold maxLen; omega))
  | cons x r =>
    refine toR_rd (n := 5) (p := .sl ps) hs ?_ hr
    have hS' : S[o]? = some (some ⟨ty, sz, x :: r⟩) := hS
    have e1 : toR 5 S (ownD o (x :: r)) = (match S[o]? with
        | some (some ob) => if r.length + 1 ≤ ob.xs.length then (optMap (toR 4 S) (ob.xs.take (r.length + 1))).map .sl else none
        | _ => none) := rfl
    rw [e1, hS']
    dsimp only
    rw [if_pos (by simp), List.take_of_length_le (by simp), hps]
    rfl
end Go.V
namespace Go.V
abbrev RT.o (t : Nat) (s : SOp) (r : RT) : RT := .op ⟨some t, none, s⟩ r
abbrev RT.g (t u : Nat) (b : Bool) (s : SOp) (r : RT) : RT := .op ⟨some t, some (u, b), s⟩ r
end Go.V
