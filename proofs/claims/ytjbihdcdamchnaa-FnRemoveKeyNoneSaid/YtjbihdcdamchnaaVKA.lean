/- A part of the proofs about laws of the page tree (see the text that bears the law): a small language of steps, its rules, and what the functions of the program return. -/
import Derived.Test.YtjbihdcdamchnaaVKT
set_option linter.all false
set_option linter.unusedVariables false
set_option linter.unusedSimpArgs false
namespace Go.V

/-! an own slice that may be empty: then it is nil (or like nil) -/
def ownD (o : Nat) : List D → D
  | [] => .nils
  | _ :: r => .own o (r.length + 1)
def obD (ty sz : Nat) : List D → Option Ob
  | [] => none
  | x :: r => some ⟨ty, sz, x :: r⟩
theorem ownD_ne {o : Nat} : ∀ {xs : List D}, xs ≠ [] → ownD o xs = .own o xs.length
  | [], h => absurd rfl h
  | _ :: _, _ => rfl
theorem obD_ne {ty sz : Nat} : ∀ {xs : List D}, xs ≠ [] → obD ty sz xs = some ⟨ty, sz, xs⟩
  | [], h => absurd rfl h
  | _ :: _, _ => rfl

section post
variable {P : Program} {o : Oper} {E : Env} {S : Store}
/-- what is in hand behind an operation may be seen anew -/
def Seen (S : Store) (d : D) (S1 : Store) (d2 : D) (S2 : Store) : Prop :=
  ∀ (ρ : Rho) (I : Nat → Prop) (w : World) (v : Value), S.length ≤ S1.length → St ρ I w S1 → RD ρ I w v d → ∃ ρ' I', St ρ' I' w S2 ∧ RD ρ' I' w v d2 ∧ Ext S.length ρ I w ρ' I' w
theorem OpX.post {c c0 : D → Store → Prop} (h : OpX P o E S c0) (hp : ∀ d S1, c0 d S1 → S.length ≤ S1.length ∧ ∃ d2 S2, c d2 S2 ∧ Seen S d S1 d2 S2) : OpX P o E S c := fun ρ I w a next Q hs he hn =>
  h ρ I w a next Q hs he fun u d ρ1 I1 w1 S1 h1 h2 h3 h4 => by
    obtain ⟨hl, d2, S2, k1, k2⟩ := hp d S1 h1
    obtain ⟨ρ2, I2, k3, k4, k5⟩ := k2 ρ1 I1 w1 u hl h2 h3
    exact hn u d2 ρ2 I2 w1 S2 k1 k3 k4 (h4.trans k5)

/-- a dead number more -/
theorem seen_pad {d : D} {S1 : Store} : Seen S d S1 d (S1 ++ [none]) := fun ρ I w v hl hs hr => by
  have hold : ∀ (o' b' sz' : Nat), ρ[o']? = some (some (b', sz')) → (ρ ++ [none])[o']? = some (some (b', sz')) := fun o' b' sz' ho' => by
    rw [List.getElem?_append_left (List.getElem?_eq_some_iff.1 ho').1]; exact ho'
  have hback : ∀ (o' b' sz' : Nat), (ρ ++ [none])[o']? = some (some (b', sz')) → ρ[o']? = some (some (b', sz')) := fun o' b' sz' ho' => by
    rw [List.getElem?_append] at ho'
    split at ho'
    · exact ho'
    · simp only [List.getElem?_singleton] at ho'
      split at ho' <;> simp at ho'
  have hSb : ∀ (o' : Nat) (ob : Ob), (S1 ++ [none])[o']? = some (some ob) → S1[o']? = some (some ob) := fun o' ob ho' => by
    rw [List.getElem?_append] at ho'
    split at ho'
    · exact ho'
    · simp only [List.getElem?_singleton] at ho'
      split at ho' <;> simp at ho'
  have t0 : Tr ρ I w (ρ ++ [none]) I w := ⟨fun b hb => ⟨hb, rfl⟩, fun o' b' sz' ho' => ⟨hold o' b' sz' ho', fun c F hc => ⟨c, hc, rfl⟩⟩⟩
  refine ⟨ρ ++ [none], I, { len := by simp [hs.len], old := hs.old, obs := ?_, lt := fun o b sz ho => hs.lt o b sz (hback o b sz ho), apart := fun o b sz ob hS ho => hs.apart o b sz ob (hSb o ob hS) (hback o b sz ho), inj := fun o o' b sz sz' ob ob' h1 h2 h3 h4 => hs.inj o o' b sz sz' ob ob' (hSb _ _ h1) (hSb _ _ h2) (hback _ _ _ h3) (hback _ _ _ h4) }, RD.tr t0 hr, ?_⟩
  · intro o' ob ho'
    obtain ⟨b, sz, h1, h2, cs, h3, h4, h5⟩ := hs.obs o' ob (hSb o' ob ho')
    exact ⟨b, sz, hold _ _ _ h1, h2, cs, h3, h4, fun i hi => (h5 i hi).tr t0⟩
  · exact t0.ext rfl rfl rfl (Nat.le_refl _) (by simp) (fun _ _ _ => rfl) (fun _ h => .inl h) fun o' b' sz' ho' => .inl ⟨o', sz', hback _ _ _ ho'⟩

/-- an own slice at a new number -/
theorem seen_move {oo n : Nat} {ob : Ob} {S1 : Store} (hS : S1[oo]? = some (some ob)) : Seen S (.own oo n) S1 (.own S1.length n) (S1.set oo none ++ [some ob]) := fun ρ I w v hl hs hr => by
  obtain ⟨b, sz, h1, h2, cs, h3, h4, h5⟩ := hs.obs oo ob hS
  have hlen := hs.len
  have hget : (ρ ++ [some (b, sz)])[S1.length]? = some (some (b, sz)) := by rw [List.getElem?_append_right (by omega)]; simp [hlen]
  have hold : ∀ (o' b' sz' : Nat), ρ[o']? = some (some (b', sz')) → (ρ ++ [some (b, sz)])[o']? = some (some (b', sz')) := fun o' b' sz' ho' => by
    rw [List.getElem?_append_left (List.getElem?_eq_some_iff.1 ho').1]; exact ho'
  have t0 : Tr ρ I w (ρ ++ [some (b, sz)]) I w := ⟨fun b hb => ⟨hb, rfl⟩, fun o' b' sz' ho' => ⟨hold o' b' sz' ho', fun c F hc => ⟨c, hc, rfl⟩⟩⟩
  refine ⟨ρ ++ [some (b, sz)], I, app_st hs hS t0 (hs.apart oo b sz ob hS h1) (hs.lt oo b sz h1) (fun o' sz' ob2 hne hS' h' => hne (hs.inj o' oo b sz' sz ob2 ob hS' hS h' h1)) h2 h3 (Nat.le_refl _) h4 (fun _ _ _ _ _ _ _ => rfl) h5, ?_, ?_⟩
  · rw [rd_own] at hr
    obtain ⟨b', sz', cap, cs', E', g1, g2⟩ := hr
    rw [h1] at g1
    simp at g1
    obtain ⟨rfl, rfl⟩ := g1
    exact rd_own.2 ⟨b, sz, cap, cs', E', hget, g2⟩
  · refine t0.ext rfl rfl rfl (Nat.le_refl _) (by simp) (fun _ _ _ => rfl) (fun _ h => .inl h) fun o' b' sz' ho' => ?_
    rw [List.getElem?_append] at ho'
    split at ho'
    · exact .inl ⟨o', sz', ho'⟩
    · simp only [List.getElem?_singleton] at ho'
      split at ho' <;> simp at ho'
      exact .inl ⟨oo, sz, by rw [← ho'.1]; exact h1⟩
theorem seen_refl {d : D} {S1 : Store} : Seen S d S1 d S1 := fun ρ I _ _ _ hs hr => ⟨ρ, I, hs, hr, Ext.refl _ _ _ _⟩
end post

/-- append, whatever is empty: the result has a new number -/
theorem okX_appd {P : Program} {S : Store} {o : Oper} {E : Env} {c : D → Store → Prop} {T e : TypeId} {i : TypeInfo} {x y : Operand} {x' y' : Opd} {zero xs ys : List D} {oo : Nat} (hop : o.op = .call { callee := .builtin .append, args := #[x, y], argTypes := #[T, T] })
    (hT : P.underlying T = some (.slice e)) (hi : P.info? e = some i) (hz : zeroT P e = some zero) (hzl : zero.length = i.size) (hx : dOpd x = some x') (hy : dOpd y = some y')
    (hys : elemsOf S i.size (ev E y') = some ys) (hall : ys.all cellOK = true) (e1 : ev E x' = ownD oo xs) (hob : S[oo]? = some (obD e i.size xs)) (hb : (xs.length + ys.length) * i.bytes ≤ 140737488355328 ∧ xs.length + ys.length ≤ maxLen)
    (h : c (ownD S.length (xs ++ ys)) (S.set oo none ++ [obD e i.size (xs ++ ys)])) : OpX P o E S c := by
  have hlt : oo < S.length := (List.getElem?_eq_some_iff.1 hob).1
  cases xs with
  | nil =>
    have hS0 : S.set oo none = S := by
      apply List.ext_getElem?
      intro q
      rw [List.getElem?_set]
      split
      · rename_i e; subst e; first | (rw [hob]; rfl) | (rw [if_pos hlt, hob]; rfl)
      · rfl
    rw [hS0] at h
    simp only [List.nil_append] at h
    refine OpX.post (c0 := fun d S' => (ys = [] ∧ d = .nils ∧ S' = S) ∨ (ys ≠ [] ∧ d = .own S.length ys.length ∧ S' = S ++ [some ⟨e, i.size, ys⟩])) ?_ ?_
    · refine okS_app hop hT hi hz hzl hx hy hys hall ?_
      have e2 : ev E x' = .nils := e1
      rw [e2]
      exact ⟨fun e => .inl ⟨e, rfl, rfl⟩, fun hne => ⟨by simpa using hb.1, by simpa using hb.2, .inr ⟨hne, rfl, rfl⟩⟩⟩
    · rintro d S' (⟨rfl, rfl, rfl⟩ | ⟨hne, rfl, rfl⟩)
      · exact ⟨Nat.le_refl _, _, _, h, seen_pad⟩
      · rw [ownD_ne hne, obD_ne hne] at h
        exact ⟨by simp, _, _, h, seen_refl⟩
  | cons a r =>
    have hob' : S[oo]? = some (some ⟨e, i.size, a :: r⟩) := hob
    have hne : (a :: r) ++ ys ≠ [] := by simp
    rw [ownD_ne hne, obD_ne hne] at h
    simp only [List.length_append] at h
    refine OpX.post (c0 := fun d S' => (ys = [] ∧ d = .own oo (r.length + 1) ∧ S' = S) ∨ (ys ≠ [] ∧ d = .own S.length (r.length + 1 + ys.length) ∧ S' = S.set oo none ++ [some ⟨e, i.size, (a :: r) ++ ys⟩])) ?_ ?_
    · refine okS_app hop hT hi hz hzl hx hy hys hall ?_
      have e2 : ev E x' = .own oo (r.length + 1) := e1
      rw [e2]
      exact ⟨fun e => .inl ⟨e, rfl, rfl⟩, fun hne => ⟨_, hob', rfl, rfl, rfl, hb.1, hb.2, .inr ⟨hne, rfl, rfl⟩⟩⟩
    · rintro d S' (⟨rfl, rfl, rfl⟩ | ⟨hne, rfl, rfl⟩)
      · simp only [List.append_nil, List.length_nil, Nat.add_zero] at h
        exact ⟨Nat.le_refl _, _, _, h, seen_move hob'⟩
      · exact ⟨by simp, _, _, h, seen_refl⟩
/-- append to nothing -/
theorem okX_app0 {P : Program} {S : Store} {o : Oper} {E : Env} {c : D → Store → Prop} {T e : TypeId} {i : TypeInfo} {x y : Operand} {x' y' : Opd} {zero ys : List D} (hop : o.op = .call { callee := .builtin .append, args := #[x, y], argTypes := #[T, T] })
    (hT : P.underlying T = some (.slice e)) (hi : P.info? e = some i) (hz : zeroT P e = some zero) (hzl : zero.length = i.size) (hx : dOpd x = some x') (hy : dOpd y = some y')
    (hys : elemsOf S i.size (ev E y') = some ys) (hall : ys.all cellOK = true) (e1 : ev E x' = .nils) (hb : ys.length * i.bytes ≤ 140737488355328 ∧ ys.length ≤ maxLen)
    (h : c (ownD S.length ys) (S ++ [obD e i.size ys])) : OpX P o E S c := by
  refine OpX.post (c0 := fun d S' => (ys = [] ∧ d = .nils ∧ S' = S) ∨ (ys ≠ [] ∧ d = .own S.length ys.length ∧ S' = S ++ [some ⟨e, i.size, ys⟩])) ?_ ?_
  · refine okS_app hop hT hi hz hzl hx hy hys hall ?_
    rw [e1]
    exact ⟨fun e => .inl ⟨e, rfl, rfl⟩, fun hne => ⟨hb.1, hb.2, .inr ⟨hne, rfl, rfl⟩⟩⟩
  · rintro d S' (⟨rfl, rfl, rfl⟩ | ⟨hne, rfl, rfl⟩)
    · exact ⟨Nat.le_refl _, _, _, h, seen_pad⟩
    · rw [ownD_ne hne, obD_ne hne] at h
      exact ⟨by simp, _, _, h, seen_refl⟩
theorem elemsOf_d {S : Store} {ty sz o : Nat} : ∀ {xs : List D}, S[o]? = some (obD ty sz xs) → elemsOf S sz (ownD o xs) = some xs
  | [], _ => rfl
  | x :: r, h => by
    have h' : S[o]? = some (some ⟨ty, sz, x :: r⟩) := h
    simp [ownD, elemsOf, h']

/-- a literal, own -/
theorem okX_lit {P : Program} {S : Store} {o : Oper} {E : Env} {c : D → Store → Prop} {T e : TypeId} {sz n : Nat} {parts : Array (Nat × Operand)} {parts' : List (Nat × Opd)} {zero : List D} {xs : List PV} (hop : o.op = .buildSlice T n parts)
    (hT : P.underlying T = some (.slice e)) (hs : szT P e = some sz) (hz : zeroT P e = some zero) (hp : litParts 0 parts.toList = some parts') (hn : parts.size = n) (hsz : sz ≠ 0) (h24 : n * sz ≤ 2 ^ 24) (h0 : n ≠ 0)
    (hxs : litD E sz n parts' = some xs) (h1 : ∀ x ∈ xs, x.nc = sz) (h2 : zero.length = sz) (h : c (.own S.length n) (S ++ [some ⟨e, sz, xs.map .pv⟩])) : OpX P o E S c := by
  intro ρ I w ac next Q hst he hnx
  obtain ⟨zv, hz1, hz2⟩ := run_zero hz
  have h24' : ¬ 2 ^ 24 < n * sz := by omega
  have hz0 : n * sz ≠ 0 := Nat.mul_ne_zero h0 hsz
  have hnm : n ≤ n * sz := Nat.le_mul_of_pos_right _ (Nat.pos_of_ne_zero hsz)
  obtain ⟨vs, e1, e2, e3, e4⟩ := lit_fill (ρ := ρ) (I := I) (w := w) (ac := ac) (sz := sz) (n := n) (k := 0) (cells := (Array.range (n * sz)).map (zv.cells[· % zv.cells.size]!)) hp hxs h1
    (by simp [hn]) (fun i x t hm hx => he t (slots_mem (by
      subst hx
      simp only [hop, Op.operands]
      exact (by simpa using ⟨i, by simpa using hm⟩))))
  have hlx : xs.length = n := by
    have : ∀ {ps : List (Nat × Opd)} {xs : List PV}, litD E sz n ps = some xs → xs.length = ps.length := fun {ps} => by
      induction ps with
      | nil => intro xs hh; simp [litD] at hh; subst hh; rfl
      | cons p ps ih => intro xs hh; obtain ⟨i, x⟩ := p; simp only [litD] at hh; split at hh <;> simp at hh; rename_i q qs _ hq; subst hh; simp [ih hq]
    have h5 : ∀ {k : Nat} {ps : List (Nat × Operand)} {qs : List (Nat × Opd)}, litParts k ps = some qs → qs.length = ps.length := fun {k ps} => by
      induction ps generalizing k with
      | nil => intro qs hh; simp [litParts] at hh; subst hh; rfl
      | cons p ps ih => intro qs hh; obtain ⟨i, x⟩ := p; simp only [litParts] at hh; split at hh <;> simp at hh; rename_i q qs' _ hq; obtain ⟨_, rfl⟩ := hh; simp [ih hq]
    rw [this hxs, h5 hp]; simpa using hn
  let cs : Array Value := (vs.flatten).toArray
  let ob : Ob := ⟨e, sz, xs.map .pv⟩
  have hvl : vs.length = n := by omega
  have hfl : vs.flatten.length = n * sz := by rw [flat_len e3, hvl]
  have hcs : cs.size = n * sz := by simp only [cs, List.size_toArray, hfl]
  have hh : (w.alloc (.cells cs e)).heap = w.heap.push (.cells cs ob.ty) := rfl
  refine wp_value (u := .slice (some ⟨w.heap.size, 0, none⟩) n n) (w' := w.alloc (.cells cs e)) ?_ (hnx _ _ _ _ _ _ h (push_st (ob := ob) hst hh (by simp [ob, hcs, hlx]) ?_) ?_ (push_ext (ob := ob) hst hh rfl rfl rfl))
  · simp only [Nat.zero_mul, List.take_zero, List.nil_append] at e1
    have e5 : (parts.map fun x => (x.1, ac.eval x.2)).toList = parts.toList.map fun p => (p.1, ac.eval p.2) := by simp
    simp only [execOp, hop, Instr.buildSlice, Sem.run_bind, run_underlying hT, run_sizeOf' hs, Result.andThen_ok, h24', if_false, gt_iff_lt, hz0, hz2, Sem.run_pure, e5, e1, newRow, run_newObj]
    rfl
  · intro q hq
    have hq' : q < vs.length := by rw [hvl]; simpa [ob, hlx] using hq
    have hqx : q < xs.length := by omega
    have e6 : (cs.toList.drop (q * sz)).take sz = vs[q] := flat_seg e3 q hq'
    show RDc ρ I w ((cs.toList.drop (q * sz)).take sz) (xs.map D.pv)[q]
    rw [e6]
    simp only [List.getElem_map]
    exact e4 q hq' hqx
  · refine rd_own.2 ⟨w.heap.size, sz, n, cs, e, push_ptr (ob := ob) hst, rfl, Nat.le_refl _, by unfold maxLen; omega, ?_, by rw [hcs]; exact Nat.le_refl _⟩
    show (w.heap.push _)[w.heap.size]? = _
    rw [Array.getElem?_push]; simp
end Go.V
