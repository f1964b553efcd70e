/- A part of the proofs about laws of the page tree (see the text that bears the law): a small language of steps, its rules, and what the functions of the program return. -/
import Derived.Test.YtjbihdcdamchnaaVG
set_option linter.all false
set_option linter.unusedVariables false
set_option linter.unusedSimpArgs false
namespace Go.V

def optOpd (x : Option Operand) : Option (Option Opd) :=
  match x with
  | none => some none
  | some x => (dOpd x).map some
theorem optOpd_eq {x : Option Operand} {y : Option Opd} (h : optOpd x = some y) : x.map dOpd = y.map some := by
  cases x <;> simp [optOpd] at h
  · subst h; rfl
  · obtain ⟨z, h1, rfl⟩ := h; simp [h1]

/-- THE SLIM FORM of a free operation. -/
def slimFree (P : Program) (o : Oper) : Option SOp :=
  match o.op with
  | .move x => (dOpd x).map .mv
  | .assign x => (dOpd x).map .mv
  | .pick c a b => match dOpd c, dOpd a, dOpd b with
    | some c, some a, some b => some (.pick c a b)
    | _, _, _ => none
  | .binOp op T x y _ => match dOpd x, dOpd y with
    | some x, some y =>
      if op = .eql ∨ op = .neq then match P.underlying T with
        | some .bool => some (.beq (op == .neq) x y)
        | some (.int _) => some (.bin op x y)
        | some (.struct _) => if pairOK P T then some (.peq (op == .neq) x y) else none
        | _ => none
      else some (.bin op x y)
    | _, _ => none
  | .unOp .not _ x => (dOpd x).map .not
  | .unOp .neg _ x => (dOpd x).map .neg
  | .convert T T' x => match dOpd x, P.underlying T, P.underlying T' with
    | some x, some _, some (.int k) => some (.conv k x)
    | _, _, _ => none
  | .nilCheck x => (dOpd x).map .nilc
  | .indexAddr T x i => match dOpd x, dOpd i, P.underlying T with
    | some x, some i, some (.slice e) => (szT P e).map fun sz => .idx sz x i
    | some x, some i, some (.array n e) => (szT P e).map fun sz => .aidx n sz x i
    | _, _, _ => none
  | .fieldAddr T x f => match dOpd x, P.underlying T with
    | some x, some (.struct fs) => match fs[f]? with
      | some fd => match szT P fd.type, aggT P fd.type with
        | some sz, some agg => if sz ≠ 0 ∧ (agg = false → sz = 1) then some (.fld fd.offset sz agg x) else none
        | _, _ => none
      | none => none
    | _, _ => none
  | .field T x f => match dOpd x, P.underlying T with
    | some x, some (.struct fs) => match fs[f]? with
      | some fd => match szT P fd.type, aggT P fd.type with
        | some sz, some agg => if (agg = false → sz = 1) then some (.part fd.offset sz agg x) else none
        | _, _ => none
      | none => none
    | _, _ => none
  | .load T x => match dOpd x, szT P T, aggT P T with
    | some x, some sz, some agg => if (agg = false → sz = 1) then some (.load sz agg x) else none
    | _, _, _ => none
  | .build T parts => match P.underlying T, zeroT P T with
    | some (.struct fs), some zero => match fieldPls P fs.toList with
      | some pls => (partsOf pls parts.toList).map fun ps => .build zero ps
      | none => none
    | _, _ => none
  | .buildSlice T n parts => match P.underlying T with
    | some (.slice e) => match szT P e, zeroT P e, litParts 0 parts.toList with
      | some sz, some zero, some ps => if parts.size = n ∧ sz ≠ 0 ∧ n * sz ≤ 2 ^ 24 then some (.lit e sz n zero ps) else none
      | _, _, _ => none
    | _ => none
  | .slice T x lo hi none => match P.underlying T with
    | some (.slice e) => match szT P e, dOpd x, optOpd lo, optOpd hi with
      | some sz, some x, some lo, some hi => some (.slc sz x lo hi)
      | _, _, _, _ => none
    | _ => none
  | .slice T x lo (some hi) (some mx) => match P.underlying T with
    | some (.slice e) => match szT P e, dOpd x, optOpd lo, dOpd hi, dOpd mx with
      | some sz, some x, some lo, some hi, some mx => some (.slc3 sz x lo hi mx)
      | _, _, _, _, _ => none
    | _ => none
  | .extract x i => (dOpd x).map fun x => .ext x i
  | .makeFunc (.func f) first caps => if first = #[] then (dOpds caps.toList).map fun cs => .mkf f cs else none
  | .call { callee := .value (.func f), args, argTypes := _ } => if callable P f then (dOpds args.toList).map fun as => .call f as else none
  | .call { callee := .value x, args, argTypes := _ } => match dOpd x, dOpds args.toList with
    | some x, some as => some (.callv x as)
    | _, _ => none
  | .call { callee := .builtin .len, args, argTypes } => match args.toList, argTypes[0]? with
    | [x], some T => match P.underlying T with
      | some (.slice _) => (dOpd x).map .len
      | _ => none
    | _, _ => none
  | .call { callee := .builtin .cap, args, argTypes } => match args.toList, argTypes[0]? with
    | [x], some T => match P.underlying T with
      | some (.slice _) => (dOpd x).map .cap
      | _ => none
    | _, _ => none
  | .call { callee := .builtin .max, args, argTypes := _ } => match args.toList with
    | [x, y] => match dOpd x, dOpd y with
      | some x, some y => some (.mx x y)
      | _, _ => none
    | _ => none
  | .call { callee := .builtin .min, args, argTypes := _ } => match args.toList with
    | [x, y] => match dOpd x, dOpd y with
      | some x, some y => some (.mn x y)
      | _, _ => none
    | _ => none
  | _ => none

theorem arr1 {α : Type} {xs : Array α} {x : α} (h : xs.toList = [x]) : xs = #[x] := by cases xs; simp_all
theorem arr2 {α : Type} {xs : Array α} {x y : α} (h : xs.toList = [x, y]) : xs = #[x, y] := by cases xs; simp_all

theorem slimFree_sound {P : Program} {S : Store} {o : Oper} {E : Env} {c : D → Prop} {so : SOp} (hs : slimFree P o = some so) (h : stepF P S so E c) : ∃ d, OpOK P S o E d ∧ c d := by
  unfold slimFree at hs
  split at hs
  case h_1 x hop => obtain ⟨y, h1, rfl⟩ := Option.map_eq_some_iff.1 hs; exact ok_mv (.inl hop) h1 h
  case h_2 x hop => obtain ⟨y, h1, rfl⟩ := Option.map_eq_some_iff.1 hs; exact ok_mv (.inr hop) h1 h
  case h_3 x a b hop =>
    split at hs <;> simp at hs
    subst hs
    rename_i h1 h2 h3
    exact ok_pick hop h1 h2 h3 h
  case h_4 op T x y T' hop =>
    split at hs
    · rename_i x' y' h1 h2
      split at hs
      · rename_i hop2
        split at hs
        · rename_i hT
          simp at hs; subst hs
          refine ok_beq hop h1 h2 hT ?_ h
          rcases hop2 with rfl | rfl <;> rfl
        · simp at hs; subst hs; exact ok_bin hop h1 h2 h
        · split at hs
          · rename_i hp
            simp at hs; subst hs
            refine ok_peq hop h1 h2 hp ?_ h
            rcases hop2 with rfl | rfl <;> rfl
          · simp at hs
        · simp at hs
      · simp at hs; subst hs; exact ok_bin hop h1 h2 h
    · simp at hs
  case h_5 T x hop => obtain ⟨y, h1, rfl⟩ := Option.map_eq_some_iff.1 hs; exact ok_not hop h1 h
  case h_6 T x hop => obtain ⟨y, h1, rfl⟩ := Option.map_eq_some_iff.1 hs; exact ok_neg hop h1 h
  case h_7 T T' x hop =>
    split at hs <;> simp at hs
    subst hs
    rename_i h1 h2 h3
    exact ok_conv hop h1 h2 h3 h
  case h_8 x hop => obtain ⟨y, h1, rfl⟩ := Option.map_eq_some_iff.1 hs; exact ok_nilc hop h1 h
  case h_9 T x i hop =>
    split at hs
    · rename_i h1 h2 h3
      obtain ⟨sz, h4, rfl⟩ := Option.map_eq_some_iff.1 hs
      exact ok_idx hop h3 h4 h1 h2 h
    · rename_i h1 h2 h3
      obtain ⟨sz, h4, rfl⟩ := Option.map_eq_some_iff.1 hs
      exact ok_aidx hop h3 h4 h1 h2 h
    · simp at hs
  case h_10 T x f hop =>
    split at hs
    · rename_i x' fs h1 h2
      split at hs
      · rename_i fd h3
        split at hs
        · rename_i sz agg h4 h5
          split at hs
          · rename_i h6
            simp at hs; subst hs
            exact ok_fld hop h2 h3 h4 h6.1 h6.2 h1 h
          · simp at hs
        · simp at hs
      · simp at hs
    · simp at hs
  case h_11 T x f hop =>
    split at hs
    · rename_i x' fs h1 h2
      split at hs
      · rename_i fd h3
        split at hs
        · rename_i sz agg h4 h5
          split at hs
          · rename_i h6
            simp at hs; subst hs
            exact ok_part hop h2 h3 h4 h5 h6 h1 h
          · simp at hs
        · simp at hs
      · simp at hs
    · simp at hs
  case h_12 T x hop =>
    split at hs
    · rename_i x' sz agg h1 h2 h3
      split at hs
      · rename_i h4
        simp at hs; subst hs
        exact ok_load hop h2 h3 h4 h1 h
      · simp at hs
    · simp at hs
  case h_13 T parts hop =>
    split at hs
    · rename_i fs zero h1 h2
      split at hs
      · rename_i pls h3
        obtain ⟨ps, h4, rfl⟩ := Option.map_eq_some_iff.1 hs
        exact ok_build hop h1 h2 h3 h4 h
      · simp at hs
    · simp at hs
  case h_14 T n parts hop =>
    split at hs
    · rename_i e h1
      split at hs
      · rename_i sz zero ps h2 h3 h4
        split at hs
        · rename_i h5
          simp at hs; subst hs
          exact ok_lit hop h1 h2 h3 h4 h5.1 h5.2.1 h5.2.2 h
        · simp at hs
      · simp at hs
    · simp at hs
  case h_15 T x lo hi hop =>
    split at hs
    · rename_i e h1
      split at hs
      · rename_i h2 h3 h4 h5
        simp at hs; subst hs
        exact ok_slc hop h1 h2 h3 (optOpd_eq h4) (optOpd_eq h5) h
      · simp at hs
    · simp at hs
  case h_16 T x lo hi mx hop =>
    split at hs
    · rename_i e h1
      split at hs
      · rename_i h2 h3 h4 h5 h6
        simp at hs; subst hs
        exact ok_slc3 hop h1 h2 h3 (optOpd_eq h4) h5 h6 h
      · simp at hs
    · simp at hs
  case h_17 x i hop => obtain ⟨y, h1, rfl⟩ := Option.map_eq_some_iff.1 hs; exact ok_ext hop h1 h
  case h_18 f first caps hop =>
    split at hs
    · rename_i hf
      subst hf
      obtain ⟨cs, h1, rfl⟩ := Option.map_eq_some_iff.1 hs
      exact ok_mkf hop h1 h
    · simp at hs
  case h_19 f args ats hop =>
    split at hs
    · rename_i hf
      obtain ⟨as, h1, rfl⟩ := Option.map_eq_some_iff.1 hs
      exact ok_call hop h1 hf h
    · simp at hs
  case h_20 x args ats _ hop =>
    split at hs
    · rename_i h1 h2
      simp at hs; subst hs
      exact ok_callv hop h1 h2 h
    · simp at hs
  case h_21 args ats hop =>
    split at hs
    · rename_i x T h1 h2
      split at hs
      · rename_i h3
        obtain ⟨y, h4, rfl⟩ := Option.map_eq_some_iff.1 hs
        rw [arr1 h1] at hop
        exact ok_len hop h2 h3 h4 h
      · simp at hs
    · simp at hs
  case h_22 args ats hop =>
    split at hs
    · rename_i x T h1 h2
      split at hs
      · rename_i h3
        obtain ⟨y, h4, rfl⟩ := Option.map_eq_some_iff.1 hs
        rw [arr1 h1] at hop
        exact ok_cap hop h2 h3 h4 h
      · simp at hs
    · simp at hs
  case h_23 args ats hop =>
    split at hs
    · rename_i x y h1
      rw [arr2 h1] at hop
      split at hs
      · rename_i h2 h3
        simp at hs; subst hs
        exact ok_mx hop h2 h3 h
      · simp at hs
    · simp at hs
  case h_24 args ats hop =>
    split at hs
    · rename_i x y h1
      rw [arr2 h1] at hop
      split at hs
      · rename_i h2 h3
        simp at hs; subst hs
        exact ok_mn hop h2 h3 h
      · simp at hs
    · simp at hs
  case h_25 => simp at hs

def guardOf (ops : Array Oper) (o : Oper) : Option (Option (Nat × Bool)) :=
  match o.guard with
  | none => some none
  | some (j, want) => match (ops[j]?).bind (·.dst) with
    | some t => some (some (t, want))
    | none => none

def slimFrees (P : Program) (ops : Array Oper) : List Oper → Option (List SO)
  | [] => some []
  | o :: rest => match slimFree P o, guardOf ops o, slimFrees P ops rest with
    | some so, some g, some r => some (⟨o.dst, g, so⟩ :: r)
    | _, _, _ => none

theorem put_same {E : Env} {t : Nat} {d : D} (h : E t = d) : put E (some t) d = E := by
  funext i
  simp only [put]
  split
  · rename_i e; rw [e, h]
  · rfl

theorem regF_sound {P : Program} {S : Store} {ops : Array Oper} {K : Env → Prop} : ∀ {l : List Oper} {l' : List SO} {E : Env}, slimFrees P ops l = some l' → regF P S l' E K → wpLex P S ops K l E
  | [], l', E, h, hr => by simp [slimFrees] at h; subst h; exact hr
  | o :: l, l', E, h, hr => by
    simp only [slimFrees] at h
    split at h <;> simp at h
    rename_i so g r h1 h2 h3
    subst h
    unfold guardOf at h2
    unfold regF at hr
    split at h2
    · rename_i hg
      simp at h2; subst h2
      obtain ⟨d, hd, hc⟩ := slimFree_sound h1 hr
      exact ⟨d, .inl ⟨by simp [wantD, hg], hd⟩, regF_sound h3 hc⟩
    · rename_i j want hg
      split at h2
      · rename_i t ht
        simp at h2; subst h2
        simp only at hr
        split at hr
        · rename_i b hb
          by_cases hbw : b = want
          · subst hbw
            have := hr.1 rfl
            rw [put_same hb] at this
            obtain ⟨d, hd, hc⟩ := slimFree_sound h1 this
            exact ⟨d, .inl ⟨by simp [wantD, hg, ht, hb], hd⟩, regF_sound h3 hc⟩
          · have hb2 : b = !want := by cases b <;> cases want <;> simp_all
            have := hr.2 hb2
            rw [← hb2, put_same hb] at this
            exact ⟨_, .inr ⟨by simp only [wantD, hg, ht, hb]; rw [hb2]; cases want <;> rfl, rfl⟩, regF_sound h3 this⟩
        · rename_i hb
          exact ⟨_, .inr ⟨by simp [wantD, hg, ht, hb], rfl⟩, regF_sound h3 hr⟩
        · exact hr.elim
      · simp at h2

end Go.V
