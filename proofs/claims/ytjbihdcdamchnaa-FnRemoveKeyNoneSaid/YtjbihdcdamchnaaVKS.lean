/- A part of the proofs about laws of the page tree (see the text that bears the law): a small language of steps, its rules, and what the functions of the program return. -/
import Derived.Test.YtjbihdcdamchnaaVK
import Derived.Lib.AppendZerosOnto
import Derived.Lib.SliceRun
set_option linter.all false
set_option linter.unusedVariables false
set_option linter.unusedSimpArgs false
namespace Go.V
open Go.Lib

/-! operations on a part of an own slice whose capacity is known -/
def splice (xs : List D) (p : Nat) (ys : List D) : List D := xs.take p ++ ys ++ xs.drop (p + ys.length)

theorem splice_get {xs ys : List D} {p q : Nat} (hp : p ≤ xs.length) : (splice xs p ys)[q]? = if q < p then xs[q]? else if q < p + ys.length then ys[q - p]? else xs[q]? := by
  unfold splice
  rw [List.append_assoc, List.getElem?_append, List.getElem?_append]
  simp only [List.length_take, show min p xs.length = p by omega]
  split
  · rw [List.getElem?_take, if_pos (by assumption)]
  · split
    · rw [if_pos (by omega)]
    · rw [if_neg (by omega), List.getElem?_drop]
      congr 1; omega
theorem splice_len {xs ys : List D} {p : Nat} (hp : p ≤ xs.length) : (splice xs p ys).length = max xs.length (p + ys.length) := by
  simp [splice]; omega

section write
variable {ρ : Rho} {I : Nat → Prop} {w : World} {S : Store}
theorem seg_write {oo b sz p : Nat} {cur : Array Value} {ob : Ob} {vs : List (List Value)} {ys : List D} (hs : St ρ I w S) (hob : S[oo]? = some (some ob)) (hρ : ρ[oo]? = some (some (b, sz)))
    (hcur : w.heap[b]? = some (.cells cur ob.ty (0, 0))) (hvl : vs.length = ys.length) (hvs : ∀ i (h : i < vs.length), vs[i].length = sz)
    (hvr : ∀ i (h : i < vs.length) (h' : i < ys.length), RDc ρ I w vs[i] ys[i]) (hp : p ≤ ob.xs.length) (hfit : (p + ys.length) * sz ≤ cur.size) :
    St ρ I (w.setRow b (cur.toList.take (p * sz) ++ vs.flatten ++ cur.toList.drop (p * sz + vs.flatten.length)).toArray) (S.set oo (some { ob with xs := splice ob.xs p ys })) ∧
    Tr ρ I w ρ I (w.setRow b (cur.toList.take (p * sz) ++ vs.flatten ++ cur.toList.drop (p * sz + vs.flatten.length)).toArray) ∧
    ∀ k0, Ext k0 ρ I w ρ I (w.setRow b (cur.toList.take (p * sz) ++ vs.flatten ++ cur.toList.drop (p * sz + vs.flatten.length)).toArray) := by
  obtain ⟨b', sz', h2, h3, cur', h4, h5, h6⟩ := hs.obs oo ob hob
  rw [hρ] at h2
  simp at h2
  obtain ⟨rfl, rfl⟩ := h2
  rw [hcur] at h4
  simp at h4
  subst h4
  have hfl : vs.flatten.length = ys.length * sz := by rw [flat_len hvs, hvl]
  have hmul : (p + ys.length) * sz = p * sz + ys.length * sz := Nat.add_mul _ _ _
  have hfit' : p * sz + vs.flatten.length ≤ cur.size := by omega
  generalize hL' : (cur.toList.take (p * sz) ++ vs.flatten ++ cur.toList.drop (p * sz + vs.flatten.length)).toArray = L'
  have hL : L'.size = cur.size := by subst hL'; simp; simp at hfit'; omega
  have hb' : (w.setRow b L').heap[b]? = some (.cells L' ob.ty (0, 0)) := setRow_heap w b cur L' ob.ty (0, 0) hcur
  have hoth : ∀ k, k ≠ b → (w.setRow b L').heap[k]? = w.heap[k]? := fun k hk => setRow_other w b k L' hk
  have t := set_tr (ρ := ρ) hcur (hs.apart oo b sz ob hob hρ) hb' hL hoth
  have hseg : ∀ q m, m < sz → L'.toList[q * sz + m]? = if q < p then cur.toList[q * sz + m]? else if q < p + ys.length then vs.flatten[(q - p) * sz + m]? else cur.toList[q * sz + m]? := fun q m hm => by
    subst hL'
    rw [show ((cur.toList.take (p * sz) ++ vs.flatten ++ cur.toList.drop (p * sz + vs.flatten.length)).toArray).toList = cur.toList.take (p * sz) ++ vs.flatten ++ cur.toList.drop (p * sz + vs.flatten.length) from rfl]
    rw [seg_get (by simpa using hfit')]
    by_cases h1 : q < p
    · have : (q + 1) * sz ≤ p * sz := Nat.mul_le_mul_right _ h1
      rw [Nat.add_mul] at this
      rw [if_pos (by omega), if_pos h1]
    · have h1' : p * sz ≤ q * sz := Nat.mul_le_mul_right _ (by omega)
      have e : q * sz = p * sz + (q - p) * sz := by rw [← Nat.add_mul]; congr 1; omega
      by_cases h2 : q < p + ys.length
      · have : (q + 1) * sz ≤ (p + ys.length) * sz := Nat.mul_le_mul_right _ h2
        rw [Nat.add_mul, hmul] at this
        rw [if_neg (by omega), if_pos (by omega), if_neg h1, if_pos h2]
        congr 1; omega
      · have : (p + ys.length) * sz ≤ q * sz := Nat.mul_le_mul_right _ (by omega)
        rw [hmul] at this
        rw [if_neg (by omega), if_neg (by omega), if_neg h1, if_neg h2]
  have hsl : ∀ q, q < ob.xs.length → q * sz + sz ≤ cur.size := fun q hq => by
    have : (q + 1) * sz ≤ ob.xs.length * sz := Nat.mul_le_mul_right _ hq
    rw [Nat.add_mul] at this; omega
  refine ⟨set_st (ob' := { ob with xs := splice ob.xs p ys }) hs hρ hob rfl rfl h3 hcur hb' hL hoth (by simp) ?_ ?_, t, fun k0 => set_ext hρ t rfl rfl rfl (by simp) hoth⟩
  · show (splice ob.xs p ys).length * sz ≤ L'.size
    rw [splice_len hp, hL]
    rcases Nat.le_total ob.xs.length (p + ys.length) with h | h
    · rw [Nat.max_eq_right h]; exact hfit
    · rw [Nat.max_eq_left h]; exact h5
  · intro q hq
    have hq2 := splice_get (ys := ys) (q := q) hp
    have hq' : q < (splice ob.xs p ys).length := hq
    rw [List.getElem?_eq_getElem hq'] at hq2
    show RDc ρ I (w.setRow b L') ((L'.toList.drop (q * sz)).take sz) (splice ob.xs p ys)[q]
    have same : (q < p ∨ p + ys.length ≤ q) → RDc ρ I (w.setRow b L') ((L'.toList.drop (q * sz)).take sz) (splice ob.xs p ys)[q] := fun hcase => by
      have e1 : ob.xs[q]? = some (splice ob.xs p ys)[q] := by
        rw [hq2]
        rcases hcase with h | h
        · rw [if_pos h]
        · rw [if_neg (by omega), if_neg (by omega)]
      obtain ⟨hq3, e2⟩ := List.getElem?_eq_some_iff.1 e1
      rw [← e2]
      have e3 : (L'.toList.drop (q * sz)).take sz = (cur.toList.drop (q * sz)).take sz := by
        apply List.ext_getElem?
        intro m
        rw [seg_at, seg_at]
        split
        · rename_i hm
          rw [hseg q m hm]
          rcases hcase with h | h
          · rw [if_pos h]
          · rw [if_neg (by omega), if_neg (by omega)]
        · rfl
      rw [e3]
      exact (h6 q hq3).tr t
    by_cases h1 : q < p
    · exact same (.inl h1)
    by_cases h2 : q < p + ys.length
    · rw [if_neg h1, if_pos h2] at hq2
      obtain ⟨hq3, e2⟩ := List.getElem?_eq_some_iff.1 hq2.symm
      rw [← e2]
      have hq4 : q - p < vs.length := by omega
      have e3 : (L'.toList.drop (q * sz)).take sz = vs[q - p] := by
        rw [← flat_seg hvs (q - p) hq4]
        apply List.ext_getElem?
        intro m
        rw [seg_at, seg_at]
        split
        · rename_i hm
          rw [hseg q m hm, if_neg h1, if_pos h2]
        · rfl
      rw [e3]
      exact (hvr _ hq4 hq3).tr t
    · exact same (.inr (by omega))
end write

section ops
variable {P : Program} {S : Store} {o : Oper} {E : Env} {c : D → Store → Prop}

theorem okX_isnil {op : BinOp} {ng : Bool} {T e T' : TypeId} {x : Operand} {x' : Opd} {n' c' : Nat} (hop : o.op = .binOp op T x (.const (.slice none n' c')) T') (hT : P.underlying T = some (.slice e)) (hng : op = if ng then .neq else .eql) (hx : dOpd x = some x')
    (h : match ev E x' with
      | .nils => c (.pv (.bool true)) S ∧ c (.pv (.bool false)) S
      | .pv (.sl xs) => c (.pv (.bool ng)) S ∧ (xs = [] → c (.pv (.bool !ng)) S)
      | .own _ _ => c (.pv (.bool ng)) S
      | .sub _ _ _ _ => c (.pv (.bool ng)) S
      | _ => False) : OpX P o E S c := by
  intro ρ I w a next Q hs he hn
  have g := dOpd_sound (a := a) hx fun t ht => he t (slots_mem (by simp [hop, Op.operands, ht]))
  have ex : ∀ (b : Option Addr) (n cap : Nat), a.eval x = .slice b n cap → (execOp a.eval o).run P w = .ok (.value (.bool (if ng then !b.isNone else b.isNone))) w := fun b n cap hv => by
    have hg : ∀ op : BinOp, (eqGuard op T x (.const (.slice none n' c')) (.slice b n cap) (.slice none n' c')).run P w = .ok () w := fun op => by
      cases op <;> simp [eqGuard]
    have hc : a.eval (.const (.slice none n' c')) = .slice none n' c' := rfl
    have hq : (Op.equalIn (9999 + 1) T (.slice b n cap) (.slice none n' c')).run P w = .ok b.isNone w := run_equalIn_slice_nil w 9999 T e b n cap n' c' hT
    cases ng <;> subst hng <;> simp [execOp, hop, hv, hc, hg, binOp, Op.equal, Op.maxDepth, hq]
  have fin : ∀ t : Bool, c (.pv (.bool t)) S → (execOp a.eval o).run P w = .ok (.value (.bool t)) w → o.wp P a w next Q := fun t hc hr =>
    wp_value hr (hn _ _ _ _ _ _ hc hs (rd_bool.2 rfl) (Ext.refl _ _ _ _))
  split at h
  · rename_i e1
    rw [e1, rd_nils] at g
    obtain ⟨b, hv⟩ := g
    have := ex _ _ _ hv
    cases hb : (if ng then !b.isNone else b.isNone) with
    | true => exact fin _ h.1 (by rw [this, hb])
    | false => exact fin _ h.2 (by rw [this, hb])
  · rename_i xs e1
    rw [e1] at g
    rcases rd_sl g with ⟨rfl, b, cap, hv, _⟩ | ⟨b, off, cap, sz', vs, hv, _⟩
    · have := ex _ _ _ hv
      cases hb : b.isNone with
      | true => exact fin _ (h.2 rfl) (by rw [this, hb]; cases ng <;> rfl)
      | false => exact fin _ h.1 (by rw [this, hb]; cases ng <;> rfl)
    · exact fin _ h.1 (by rw [ex _ _ _ hv]; cases ng <;> rfl)
  · rename_i e1
    rw [e1, rd_own] at g
    obtain ⟨b, sz, cap, cs, E', _, hv, _⟩ := g
    exact fin _ h (by rw [ex _ _ _ hv]; cases ng <;> rfl)
  · rename_i e1
    rw [e1, rd_sub] at g
    obtain ⟨b, sz, cs, E', _, hv, _⟩ := g
    exact fin _ h (by rw [ex _ _ _ hv]; cases ng <;> rfl)
  · exact h.elim

theorem zero_info {e : TypeId} {i : TypeInfo} {zero : List D} (hi : P.info? e = some i) (hz : zeroT P e = some zero) : ∃ zv, i.zero = some zv ∧ dOfs zv.cells.toList = some zero ∧ ∀ w, (zeroValue e).run P w = .ok zv w := by
  obtain ⟨zv, hz1, hz2⟩ := run_zero hz
  refine ⟨zv, ?_, hz1, hz2⟩
  have h2 := hz2 default
  simp only [zeroValue, typeInfo, Sem.run_bind, run_program, Result.andThen_ok, hi] at h2
  cases hzz : i.zero with
  | none => simp [hzz] at h2
  | some z => simp [hzz] at h2; rw [h2]

theorem run_copy_rowN (w : World) (dT sT ty elem : TypeId) (g o dLen dCap : Nat) (a : Addr) (sLen sCap : Nat) (cur : Array Value) (t : TypeId) (cs : List Value) {i : TypeInfo}
    (hu : P.underlying dT = some (.slice elem)) (hi : P.info? elem = some i)
    (hg : w.heap[g]? = some (.cells cur t (0, 0))) (hn : cs.length = Nat.min sLen dLen * i.size)
    (hsrc : ∀ j v, cs[j]? = some v → w.cell? (a.add j) = some v) (hfit : o + cs.length ≤ cur.size) (h1 : ∀ v ∈ cs, v.oneCell' = true) :
    (Builtin.copy_ #[dT, sT] ty #[.slice (some ⟨g, o, none⟩) dLen dCap, .slice (some a) sLen sCap]).run P w =
      .ok (goInt (Nat.min sLen dLen)) (w.setRow g (cur.toList.take o ++ cs ++ cur.toList.drop (o + cs.length)).toArray) := by
  have hl := run_loadCells_list (P := P) w a cs hsrc
  have hst := run_storeCells_at P g o t cs 0 cur w hg (by simpa using hfit) h1
  simp [Builtin.copy_, run_underlying hu, Builtin.lenOf, Builtin.firstCells, sizeOf, typeInfo, hi, ← hn, hl, hst]

theorem run_copy_zero (w : World) (dT sT ty elem : TypeId) (b : Option Addr) (dLen dCap : Nat) (a : Option Addr) (sLen sCap : Nat) {i : TypeInfo}
    (hu : P.underlying dT = some (.slice elem)) (hi : P.info? elem = some i) (hn : Nat.min sLen dLen = 0) :
    (Builtin.copy_ #[dT, sT] ty #[.slice b dLen dCap, .slice a sLen sCap]).run P w = .ok (goInt 0) w := by
  cases a <;> cases b <;> simp [Builtin.copy_, run_underlying hu, Builtin.lenOf, Builtin.firstCells, sizeOf, typeInfo, hi, hn, loadCells, loadCellsFrom, storeCells]

theorem take_src {α : Type} {sz : Nat} {vs : List (List α)} (h : ∀ i (h : i < vs.length), vs[i].length = sz) (n : Nat) : (vs.take n).flatten = vs.flatten.take (n * sz) := by
  induction vs generalizing n with
  | nil => simp
  | cons v vs ih =>
    cases n with
    | zero => simp
    | succ n =>
      have h0 := h 0 (by simp)
      simp only [List.getElem_cons_zero] at h0
      rw [List.take_succ_cons, List.flatten_cons, List.flatten_cons, ih (fun i hi => by have := h (i + 1) (by simpa using hi); simpa using this)]
      rw [show (n + 1) * sz = v.length + n * sz by rw [Nat.add_mul, h0]; omega, List.take_length_add_append]

theorem okX_copy {dT sT e : TypeId} {i : TypeInfo} {x y : Operand} {x' y' : Opd} {ys : List D} (hop : o.op = .call { callee := .builtin .copy, args := #[x, y], argTypes := #[dT, sT] })
    (hT : P.underlying dT = some (.slice e)) (hi : P.info? e = some i) (hx : dOpd x = some x') (hy : dOpd y = some y')
    (hys : elemsOf S i.size (ev E y') = some ys) 
    (h : match ev E x' with
      | .nils => c .any S
      | .own oo n => (ys.take n).all cellOK = true ∧ ∃ ob, S[oo]? = some (some ob) ∧ ob.sz = i.size ∧ n ≤ ob.xs.length ∧ c .any (S.set oo (some { ob with xs := splice ob.xs 0 (ys.take n) }))
      | .sub oo off n _ => (ys.take n).all cellOK = true ∧ ∃ ob, S[oo]? = some (some ob) ∧ ob.sz = i.size ∧ off + n ≤ ob.xs.length ∧ c .any (S.set oo (some { ob with xs := splice ob.xs off (ys.take n) }))
      | _ => False) : OpX P o E S c := by
  intro ρ I w a next Q hs he hn
  have g1 := dOpd_sound (a := a) hx fun t ht => he t (slots_mem (by simp [hop, Op.operands, Call.operands, ht]))
  have g2 := dOpd_sound (a := a) hy fun t ht => he t (slots_mem (by simp [hop, Op.operands, Call.operands, ht]))
  obtain ⟨ya, ycap, hyv, hsrc⟩ := elems_src hs g2 hys
  have hexec : ∀ v w', (Builtin.copy_ #[dT, sT] o.type #[a.eval x, a.eval y]).run P w = .ok v w' → (execOp a.eval o).run P w = .ok (.value v) w' := fun v w' hr => by
    simp [execOp, hop, resolve, invoke, builtin, hr]
  have main : ∀ (oo off n cap b : Nat) (ob : Ob), (ys.take n).all cellOK = true → S[oo]? = some (some ob) → ob.sz = i.size → off + n ≤ ob.xs.length → ρ[oo]? = some (some (b, i.size)) → a.eval x = .slice (some ⟨b, off * i.size, none⟩) n cap →
      c .any (S.set oo (some { ob with xs := splice ob.xs off (ys.take n) })) → o.wp P a w next Q := fun oo off n cap b ob hall hob hosz hlen hρ hxv hc => by
    obtain ⟨b', sz', h2, h3, cur, h4, h5, h6⟩ := hs.obs oo ob hob
    rw [hρ] at h2
    simp at h2
    obtain ⟨rfl, rfl⟩ := h2
    by_cases hz : min ys.length n = 0
    · have e0 : ys.take n = [] := by rw [List.take_eq_nil_iff]; rcases Nat.min_eq_zero_iff.1 hz with h | h; exact .inr (List.eq_nil_of_length_eq_zero h); exact .inl h
      have e1 : S.set oo (some { ob with xs := splice ob.xs off (ys.take n) }) = S := by
        rw [e0]
        have : splice ob.xs off [] = ob.xs := by simp [splice]
        rw [this]
        apply List.ext_getElem?
        intro q
        rw [List.getElem?_set]
        split
        · rename_i e; subst e
          rw [if_pos (List.getElem?_eq_some_iff.1 hob).1, hob]
        · rfl
      rw [e1] at hc
      refine wp_value (hexec _ _ (by rw [hxv, hyv]; exact run_copy_zero (P := P) w dT sT o.type e _ n cap ya ys.length ycap hT hi hz)) (hn _ _ _ _ _ _ hc hs rd_any (Ext.refl _ _ _ _))
    · rcases hsrc with h0 | ⟨yb, yoff, vs, rfl, hvl, hvs, hvr, hvc⟩
      · exact absurd (by rw [h0]; simp) hz
      have hvl' : (vs.take n).length = (ys.take n).length := by simp [hvl]
      have hvs' : ∀ q (h : q < (vs.take n).length), (vs.take n)[q].length = i.size := fun q hq => by simp only [List.getElem_take]; exact hvs q (by simp at hq; omega)
      have hvr' : ∀ q (h : q < (vs.take n).length) (h' : q < (ys.take n).length), RDc ρ I w (vs.take n)[q] (ys.take n)[q] := fun q hq hq' => by
        simp only [List.getElem_take]; exact hvr q (by simp at hq; omega) (by simp at hq'; omega)
      have hfl : (vs.take n).flatten.length = (ys.take n).length * i.size := by rw [flat_len hvs', hvl']
      have hsl : (off + (ys.take n).length) * i.size ≤ cur.size := Nat.le_trans (Nat.mul_le_mul_right _ (by simp; omega)) h5
      obtain ⟨q1, q2, q3⟩ := seg_write hs hob hρ h4 hvl' hvs' hvr' (p := off) (by omega) hsl
      have hone : ∀ u ∈ (vs.take n).flatten, u.oneCell' = true := fun u hu => by
        obtain ⟨l, hl, hul⟩ := List.mem_flatten.1 hu
        obtain ⟨q, hq, rfl⟩ := List.getElem_of_mem hl
        have hq' : q < (ys.take n).length := by omega
        exact cellOK_sound (hvr' q hq hq') (List.all_eq_true.1 hall _ (List.getElem_mem hq')) u hul
      have hcells : ∀ j v, (vs.take n).flatten[j]? = some v → w.cell? ((⟨yb, yoff, none⟩ : Addr).add j) = some v := fun j v hj => by
        rw [Addr.add_none]
        refine hvc j v ?_
        rw [take_src hvs, List.getElem?_take] at hj
        split at hj
        · exact hj
        · simp at hj
      have hfit : off * i.size + (vs.take n).flatten.length ≤ cur.size := by rw [hfl, ← Nat.add_mul]; exact hsl
      have hr := run_copy_rowN (P := P) w dT sT o.type e b (off * i.size) n cap ⟨yb, yoff, none⟩ ys.length ycap cur ob.ty (vs.take n).flatten hT hi h4 (by rw [hfl]; congr 1; simp [Nat.min_comm]) hcells hfit hone
      exact wp_value (hexec _ _ (by rw [hxv, hyv]; exact hr)) (hn _ _ _ _ _ _ hc q1 rd_any (q3 _))
  split at h
  · rename_i e1
    rw [e1, rd_nils] at g1
    obtain ⟨xa, hxv⟩ := g1
    exact wp_value (hexec _ _ (by rw [hxv, hyv]; exact run_copy_zero (P := P) w dT sT o.type e xa 0 0 ya ys.length ycap hT hi (Nat.min_zero _))) (hn _ _ _ _ _ _ h hs rd_any (Ext.refl _ _ _ _))
  · rename_i oo n e1
    obtain ⟨hall, ob, hob, hosz, hlen, hc⟩ := h
    rw [e1, rd_own] at g1
    obtain ⟨b, sz, cap, cs, E', hρ, hxv, _⟩ := g1
    obtain ⟨b', sz', h2, h3, _⟩ := hs.obs oo ob hob
    have hρ0 := hρ
    rw [hρ] at h2
    simp at h2
    obtain ⟨rfl, rfl⟩ := h2
    rw [h3, hosz] at hρ0
    exact main oo 0 n cap b ob hall hob hosz (by omega) hρ0 (by simpa using hxv) hc
  · rename_i oo off n cap e1
    obtain ⟨hall, ob, hob, hosz, hlen, hc⟩ := h
    rw [e1, rd_sub] at g1
    obtain ⟨b, sz, cs, E', hρ, hxv, _⟩ := g1
    obtain ⟨b', sz', h2, h3, _⟩ := hs.obs oo ob hob
    have hρ0 := hρ
    rw [hρ] at h2
    simp at h2
    obtain ⟨rfl, rfl⟩ := h2
    have hz : sz = i.size := by rw [h3, hosz]
    subst hz
    exact main oo off n cap b ob hall hob hosz hlen hρ0 hxv hc
  · exact h.elim


theorem zcells_eq {zv : Value} {sz : Nat} (h : zv.cells.size = sz) (n : Nat) : (Builtin.zeroCells zv.cells n).toList = (List.replicate n zv.cells.toList).flatten := by
  have hs : ∀ q (hq : q < (List.replicate n zv.cells.toList).length), (List.replicate n zv.cells.toList)[q].length = sz := fun q hq => by simp [h]
  apply List.ext_getElem?
  intro j
  have hfl : (List.replicate n zv.cells.toList).flatten.length = n * sz := by rw [flat_len hs]; simp
  by_cases hj : j < n * sz
  · have hsz0 : 0 < sz := by
      rcases Nat.eq_zero_or_pos sz with h | h
      · subst h; omega
      · exact h
    have hdiv : j / sz < n := (Nat.div_lt_iff_lt_mul hsz0).2 hj
    have hmod : j % sz < sz := Nat.mod_lt _ hsz0
    have hjj : j / sz * sz + j % sz = j := Nat.div_add_mod' j sz
    have e := flatten_at (List.replicate n zv.cells.toList) (j / sz) (by simpa using hdiv) hs (j % sz) hmod
    rw [hjj] at e
    rw [e]
    simp only [List.getElem_replicate]
    simp only [Builtin.zeroCells, Array.toList_map, Array.toList_range, List.getElem?_map, h]
    rw [List.getElem?_range hj]
    have : j % sz < zv.cells.size := by rw [h]; exact hmod
    simp [this]
  · rw [List.getElem?_eq_none (l := (List.replicate n zv.cells.toList).flatten) (by rw [hfl]; omega), List.getElem?_eq_none (by simp [Builtin.zeroCells, h]; omega)]

theorem okX_clear {T e : TypeId} {i : TypeInfo} {x : Operand} {x' : Opd} {zero : List D} {agg : Bool} (hop : o.op = .call { callee := .builtin .clear, args := #[x], argTypes := #[T] })
    (hT : P.underlying T = some (.slice e)) (hi : P.info? e = some i) (hz : zeroT P e = some zero) (hzl : zero.length = i.size) (h1 : agg = false → zero.length = 1) (hx : dOpd x = some x') (hzc : cellOK (zeroEl agg zero) = true)
    (h : match ev E x' with
      | .nils => c .any S
      | .sub oo off n _ => ∃ ob, S[oo]? = some (some ob) ∧ ob.sz = i.size ∧ off + n ≤ ob.xs.length ∧ (n = 0 → c .any S) ∧ (n ≠ 0 → c .any (S.set oo (some { ob with xs := splice ob.xs off (List.replicate n (zeroEl agg zero)) })))
      | _ => False) : OpX P o E S c := by
  intro ρ I w a next Q hs he hn
  have g := dOpd_sound (a := a) hx fun t ht => he t (slots_mem (by simp [hop, Op.operands, Call.operands, ht]))
  obtain ⟨zv, hzv, hz1, hz2⟩ := zero_info hi hz
  have hzsz : zv.cells.size = i.size := by have := (dOfs_sound (ρ := ρ) (I := I) (w := w) hz1).1; simp at this; omega
  have hexec : ∀ v w', (Builtin.clear_ #[T] o.type #[a.eval x]).run P w = .ok v w' → (execOp a.eval o).run P w = .ok (.value v) w' := fun v w' hr => by
    simp [execOp, hop, resolve, invoke, builtin, hr]
  split at h
  · rename_i e1
    rw [e1, rd_nils] at g
    obtain ⟨b, hv⟩ := g
    exact wp_value (u := .tuple #[]) (hexec _ _ (by rw [hv]; cases b <;> simp [Builtin.clear_, run_underlying hT])) (hn _ _ _ _ _ _ h hs rd_any (Ext.refl _ _ _ _))
  · rename_i oo off n cap e1
    obtain ⟨ob, hob, hosz, hlen, h0, hpos⟩ := h
    rw [e1, rd_sub] at g
    obtain ⟨b, sz, cs, E', hρ, hv, hncap, hcapm, hcs, hcsz⟩ := g
    by_cases hn0 : n = 0
    · subst hn0
      exact wp_value (u := .tuple #[]) (hexec _ _ (by rw [hv]; simp [Builtin.clear_, run_underlying hT])) (hn _ _ _ _ _ _ (h0 rfl) hs rd_any (Ext.refl _ _ _ _))
    · obtain ⟨b', sz', h2, h3, cur, h4, h5, h6⟩ := hs.obs oo ob hob
      have hρ0 := hρ
      rw [hρ] at h2
      simp at h2
      obtain ⟨rfl, rfl⟩ := h2
      have hsz : sz = i.size := by rw [h3, hosz]
      subst hsz
      have hvs : ∀ q (h : q < (List.replicate n zv.cells.toList).length), (List.replicate n zv.cells.toList)[q].length = i.size := fun q hq => by simp [hzsz]
      have hzr : RDc ρ I w zv.cells.toList (zeroEl agg zero) := zeroEl_sound hz1 h1
      have hsl : (off + (List.replicate n (zeroEl agg zero)).length) * i.size ≤ cur.size := Nat.le_trans (Nat.mul_le_mul_right _ (by simp; omega)) h5
      obtain ⟨q1, q2, q3⟩ := seg_write (vs := List.replicate n zv.cells.toList) (ys := List.replicate n (zeroEl agg zero)) hs hob hρ h4 (by simp) hvs (fun q hq hq' => by simp only [List.getElem_replicate]; exact hzr) (p := off) (by omega) hsl
      have hone : ∀ u ∈ (List.replicate n zv.cells.toList).flatten, u.oneCell' = true := fun u hu => by
        obtain ⟨l, hl, hul⟩ := List.mem_flatten.1 hu
        rw [(List.mem_replicate.1 hl).2] at hul
        exact cellOK_sound hzr hzc u hul
      have hfl : (List.replicate n zv.cells.toList).flatten.length = n * i.size := by rw [flat_len hvs]; simp
      have hst := run_storeCells_at P b (off * i.size) ob.ty (List.replicate n zv.cells.toList).flatten 0 cur w h4 (by rw [hfl]; simp [Nat.add_mul] at hsl; omega) hone
      simp only [Nat.add_zero] at hst
      rw [← zcells_eq hzsz] at hst q1 q2 q3
      obtain ⟨m, rfl⟩ : ∃ m, n = m + 1 := ⟨n - 1, by omega⟩
      exact wp_value (u := .tuple #[]) (hexec _ _ (by rw [hv]; simp [Builtin.clear_, run_underlying hT, hz2, hst])) (hn _ _ _ _ _ _ (hpos hn0) q1 rd_any (q3 _))
  · exact h.elim

/-- a new object out of a part of an old one and more -/
theorem grow_new {ρ : Rho} {I : Nat → Prop} {w : World} {e : TypeId} {i : TypeInfo} {zv : Value} {vs : List (List Value)} {ys : List D} {cap : Nat} (hs : St ρ I w S) (hvl : vs.length = ys.length) (hvs : ∀ q (h : q < vs.length), vs[q].length = i.size)
    (hvr : ∀ q (h : q < vs.length) (h' : q < ys.length), RDc ρ I w vs[q] ys[q]) (hcap : ys.length ≤ cap) (hcapm : cap ≤ maxLen) (hzsz : zv.cells.size = i.size) {csv : Array Value} (hcsv : csv.toList = vs.flatten ++ (Builtin.zeroCells zv.cells (cap - ys.length)).toList) :
    ∃ ρ', St ρ' I (w.drew.alloc (.cells csv e)) (S ++ [some ⟨e, i.size, ys⟩]) ∧ RD ρ' I (w.drew.alloc (.cells csv e)) (.slice (some ⟨w.heap.size, 0, none⟩) ys.length cap) (.own S.length ys.length) ∧ ∀ k0, Ext k0 ρ I w ρ' I (w.drew.alloc (.cells csv e)) := by
  let ob : Ob := ⟨e, i.size, ys⟩
  have hfl : vs.flatten.length = ys.length * i.size := by rw [flat_len hvs, hvl]
  have hcsz : csv.size = cap * i.size := by
    have : csv.toList.length = csv.size := by simp
    rw [← this, hcsv, List.length_append, hfl, Array.length_toList (xs := Builtin.zeroCells zv.cells (cap - ys.length)), size_zeroCells, hzsz, ← Nat.add_mul]
    congr 1; omega
  have hsd := hs.grow (grow_drew I w)
  have hh : (w.drew.alloc (.cells csv e)).heap = w.drew.heap.push (.cells csv ob.ty) := rfl
  refine ⟨_, push_st (ob := ob) hsd hh (by simp only [ob]; rw [hcsz]; exact Nat.mul_le_mul_right _ hcap) ?_, ?_, fun k0 => ((grow_drew I w).ext' hs).trans (push_ext (ob := ob) (S := S) hsd hh rfl rfl rfl)⟩
  · intro q hq
    have hq' : q < vs.length := by rw [hvl]; exact hq
    have e2 : (csv.toList.drop (q * i.size)).take i.size = vs[q] := by
      have hle : q * i.size + i.size ≤ vs.flatten.length := by
        rw [hfl]
        have : (q + 1) * i.size ≤ ys.length * i.size := Nat.mul_le_mul_right _ (by omega)
        rw [Nat.add_mul] at this; omega
      rw [← flat_seg hvs q hq']
      apply List.ext_getElem?
      intro m
      rw [seg_at, seg_at]
      split
      · rename_i hm
        rw [hcsv, List.getElem?_append_left (by omega)]
      · rfl
    show RDc ρ I w.drew ((csv.toList.drop (q * i.size)).take i.size) ys[q]
    rw [e2]
    exact RDc.mono (fun _ h => h) (hs.keeps (grow_drew I w)) (hvr q hq' hq)
  · refine rd_own.2 ⟨w.heap.size, i.size, cap, csv, e, push_ptr (ob := ob) hsd, rfl, hcap, hcapm, ?_, by rw [hcsz]; exact Nat.le_refl _⟩
    show (w.heap.push _)[w.heap.size]? = _
    rw [Array.getElem?_push]; simp

/-- the part of an own object, as a source -/
theorem part_src {ρ : Rho} {I : Nat → Prop} {w : World} {oo off n cap sz : Nat} {ob : Ob} {v : Value} (hs : St ρ I w S) (hob : S[oo]? = some (some ob)) (hosz : ob.sz = sz) (hlen : off + n ≤ ob.xs.length) (g : RD ρ I w v (.sub oo off n cap)) :
    ∃ b cur, ρ[oo]? = some (some (b, sz)) ∧ v = .slice (some ⟨b, off * sz, none⟩) n cap ∧ n ≤ cap ∧ cap ≤ maxLen ∧ w.heap[b]? = some (.cells cur ob.ty (0, 0)) ∧ (off + cap) * sz ≤ cur.size ∧
      ∃ vs : List (List Value), vs.length = n ∧ (∀ i (h : i < vs.length), vs[i].length = sz) ∧ (∀ i (h : i < vs.length) (h' : i < ((ob.xs.drop off).take n).length), RDc ρ I w vs[i] ((ob.xs.drop off).take n)[i]) ∧
        ∀ j u, vs.flatten[j]? = some u → w.cell? ⟨b, off * sz + j, none⟩ = some u := by
  have g0 := g
  rw [rd_sub] at g
  obtain ⟨b, sz', cs, E', hρ, hv, h1, h2, h3, h4⟩ := g
  obtain ⟨b', sz'', k2, k3, cur, k4, k5, k6⟩ := hs.obs oo ob hob
  have hρ0 := hρ
  rw [hρ] at k2
  simp at k2
  obtain ⟨rfl, rfl⟩ := k2
  have hz : sz' = sz := by rw [k3, hosz]
  subst hz
  rw [h3] at k4
  simp at k4
  obtain ⟨rfl, rfl⟩ := k4
  refine ⟨b, cs, hρ0, hv, h1, h2, h3, h4, ?_⟩
  have hys : elemsOf S sz' (.sub oo off n cap) = some ((ob.xs.drop off).take n) := by simp [elemsOf, hob, hosz, hlen]
  obtain ⟨a, cap', e1, e2⟩ := elems_src hs g0 hys
  have hl : ((ob.xs.drop off).take n).length = n := by simp; omega
  rcases e2 with e2 | ⟨b2, off2, vs, e3, e4, e5, e6, e7⟩
  · have : n = 0 := by rw [← hl, e2]; rfl
    subst this
    exact ⟨[], rfl, by simp, by simp, by simp⟩
  · rw [hv, e3] at e1
    simp at e1
    obtain ⟨⟨rfl, rfl⟩, _⟩ := e1
    exact ⟨vs, by omega, e5, e6, e7⟩

theorem okX_apps {T e : TypeId} {i : TypeInfo} {x y : Operand} {x' y' : Opd} {zero ys : List D} {oo off n cap : Nat} {ob : Ob} (hop : o.op = .call { callee := .builtin .append, args := #[x, y], argTypes := #[T, T] })
    (hT : P.underlying T = some (.slice e)) (hi : P.info? e = some i) (hz : zeroT P e = some zero) (hzl : zero.length = i.size) (hx : dOpd x = some x') (hy : dOpd y = some y')
    (hys : elemsOf S i.size (ev E y') = some ys) (hall : ys.all cellOK = true) (e1 : ev E x' = .sub oo off n cap) (hob : S[oo]? = some (some ob)) (hosz : ob.sz = i.size) (hlen : off + n ≤ ob.xs.length)
    (h0 : ys = [] → c (.sub oo off n cap) S) (h1 : ys ≠ [] → n + ys.length ≤ cap → c (.sub oo off (n + ys.length) cap) (S.set oo (some { ob with xs := splice ob.xs (off + n) ys })))
    (h2 : ys ≠ [] → cap < n + ys.length → (n + ys.length) * i.bytes ≤ 140737488355328 ∧ n + ys.length ≤ maxLen ∧ c (.own S.length (n + ys.length)) (S ++ [some ⟨e, i.size, (ob.xs.drop off).take n ++ ys⟩])) : OpX P o E S c := by
  intro ρ I w a next Q hs he hn
  have g1 := dOpd_sound (a := a) hx fun t ht => he t (slots_mem (by simp [hop, Op.operands, Call.operands, ht]))
  have g2 := dOpd_sound (a := a) hy fun t ht => he t (slots_mem (by simp [hop, Op.operands, Call.operands, ht]))
  obtain ⟨ya, ycap, hyv, hsrc⟩ := elems_src hs g2 hys
  have hexec : ∀ v w', (Builtin.append_ #[T, T] o.type #[a.eval x, a.eval y]).run P w = .ok v w' → (execOp a.eval o).run P w = .ok (.value v) w' := fun v w' hr => by
    simp [execOp, hop, resolve, invoke, builtin, hr]
  obtain ⟨zv, hzv, hz1, hz2⟩ := zero_info hi hz
  have hzsz : zv.cells.size = i.size := by have := (dOfs_sound (ρ := ρ) (I := I) (w := w) hz1).1; simp at this; omega
  rw [e1] at g1
  have g1' := g1
  obtain ⟨b, cur, hρ, hxv, hncap, hcapm, hcur, hcsz, us, hul, hus, hur, huc⟩ := part_src hs hob hosz hlen g1
  by_cases hy0 : ys = []
  · have hc := h0 hy0
    subst hy0
    exact wp_value (hexec _ _ (by rw [hxv, hyv]; exact run_append_zero T o.type e i hT hi _ n cap hncap ya ycap w)) (hn _ _ _ _ _ _ hc hs (hxv ▸ g1') (Ext.refl _ _ _ _))
  · rcases hsrc with h | ⟨yb, yoff, vs, rfl, hvl, hvs, hvr, hvc⟩
    · exact absurd h hy0
    have hlp : 0 < ys.length := List.length_pos_iff.2 hy0
    have hfl : vs.flatten.length = ys.length * i.size := by rw [flat_len hvs, hvl]
    have hcells : ∀ j u, vs.flatten[j]? = some u → w.cell? ((⟨yb, yoff, none⟩ : Addr).add j) = some u := fun j u hj => by rw [Addr.add_none]; exact hvc j u hj
    have hone : ∀ u ∈ vs.flatten, u.oneCell' = true := fun u hu => by
      obtain ⟨l, hl, hul⟩ := List.mem_flatten.1 hu
      obtain ⟨q, hq, rfl⟩ := List.getElem_of_mem hl
      have hq' : q < ys.length := by omega
      exact cellOK_sound (hvr q hq hq') (List.all_eq_true.1 hall _ (List.getElem_mem hq')) u hul
    by_cases hroom : n + ys.length ≤ cap
    · have hfit : (off + n + ys.length) * i.size ≤ cur.size := Nat.le_trans (Nat.mul_le_mul_right _ (by omega)) hcsz
      obtain ⟨q1, q2, q3⟩ := seg_write hs hob hρ hcur hvl hvs hvr (p := off + n) hlen hfit
      have hfit2 : off * i.size + n * i.size + vs.flatten.length ≤ cur.size := by
        rw [hfl, ← Nat.add_mul, ← Nat.add_mul]; exact hfit
      have hst := run_storeCells_at P b (off * i.size + n * i.size) ob.ty vs.flatten 0 cur w hcur (by simpa using hfit2) hone
      simp only [Nat.add_zero] at hst
      have hf := run_firstCells_some (P := P) w i.size ys.length ⟨yb, yoff, none⟩ ys.length ycap vs.flatten hfl hcells
      have hrun : (Builtin.append_ #[T, T] o.type #[a.eval x, a.eval y]).run P w = .ok (.slice (some ⟨b, off * i.size, none⟩) (n + ys.length) cap)
          (w.setRow b (cur.toList.take ((off + n) * i.size) ++ vs.flatten ++ cur.toList.drop ((off + n) * i.size + vs.flatten.length)).toArray) := by
        rw [hxv, hyv, Nat.add_mul]
        simp [Builtin.append_, run_underlying hT, sizeOf, typeInfo, hi, Builtin.lenOf, hroom, hf, Addr.add_none, hst]
      refine wp_value (hexec _ _ hrun) (hn _ _ _ _ _ _ (h1 hy0 hroom) q1 ?_ (q3 _))
      obtain ⟨cs', k1, k2⟩ := (q2.ob oo b i.size hρ).2 cur ob.ty hcur
      exact rd_sub.2 ⟨b, i.size, cs', ob.ty, hρ, rfl, hroom, hcapm, k1, by rw [k2]; exact hcsz⟩
    · obtain ⟨hb, hml, hc⟩ := h2 hy0 (by omega)
      have hul2 : us.flatten.length = n * i.size := by rw [flat_len hus, hul]
      have hsm : ((n + ys.length : Nat) : Int) ≤ 9223372036854775807 := by unfold maxLen at hml; omega
      have holds : ∀ j u, us.flatten[j]? = some u → w.cell? ((⟨b, off * i.size, none⟩ : Addr).add j) = some u := fun j u hj => by rw [Addr.add_none]; exact huc j u hj
      have hrun := run_append_grow (P := P) w T o.type e i zv hT hi hzv ⟨b, off * i.size, none⟩ n cap us.flatten hul2 holds ⟨yb, yoff, none⟩ ys.length ycap vs.flatten hfl hcells (by omega) hsm (growslice_fits (by omega) hb)
      obtain ⟨hcap1, hcap2⟩ := grownCap_bounds w (n + ys.length) cap e hml
      have hpl : ((ob.xs.drop off).take n).length = n := by simp; omega
      have hal : ((ob.xs.drop off).take n ++ ys).length = n + ys.length := by rw [List.length_append, hpl]
      obtain ⟨ρ', r1, r2, r3⟩ := grow_new (e := e) (i := i) (zv := zv) (vs := us ++ vs) (ys := (ob.xs.drop off).take n ++ ys) (cap := grownCap w (n + ys.length) cap e) hs (by simp only [List.length_append]; omega)
        (fun q hq => by
          rw [List.getElem_append]
          split
          · exact hus _ _
          · exact hvs _ _)
        (fun q hq hq' => by
          rw [List.getElem_append, List.getElem_append]
          by_cases hqn : q < n
          · rw [dif_pos (by omega), dif_pos (by omega)]
            exact hur _ _ _
          · rw [dif_neg (by omega), dif_neg (by omega)]
            have : q - us.length = q - ((ob.xs.drop off).take n).length := by omega
            simp only [this]
            exact hvr _ (by simp at hq; omega) _)
        (by rw [hal]; exact hcap1) hcap2 hzsz
        (csv := us.flatten.toArray ++ vs.flatten.toArray ++ Builtin.zeroCells zv.cells (grownCap w (n + ys.length) cap e - (n + ys.length))) (by rw [hal]; simp)
      rw [hal] at r2
      exact wp_value (hexec _ _ (by rw [hxv, hyv]; exact hrun)) (hn _ _ _ _ _ _ hc r1 r2 (r3 _))

theorem okX_appz {T tn e : TypeId} {i : TypeInfo} {kn : IntKind} {x y : Operand} {x' y' : Opd} {zero : List D} {agg : Bool} {k : IntKind} {m : Int} (hop : o.op = .call { callee := .builtin .append, args := #[x, y], argTypes := #[T, tn] })
    (hT : P.underlying T = some (.slice e)) (htn : P.underlying tn = some (.int kn)) (hi : P.info? e = some i) (hz : zeroT P e = some zero) (hzl : zero.length = i.size) (hsz0 : 0 < i.size) (h1 : agg = false → zero.length = 1) (hx : dOpd x = some x') (hy : dOpd y = some y')
    (e2 : ev E y' = .pv (.int k m)) (hm : 0 < m)
    (h : match ev E x' with
      | .nils => m.toNat * i.bytes ≤ 140737488355328 ∧ m.toNat ≤ maxLen ∧ c (.own S.length m.toNat) (S ++ [some ⟨e, i.size, List.replicate m.toNat (zeroEl agg zero)⟩])
      | .sub oo off n cap => ∃ ob, S[oo]? = some (some ob) ∧ ob.sz = i.size ∧ off + n ≤ ob.xs.length ∧ cap < n + m.toNat ∧ (n + m.toNat) * i.bytes ≤ 140737488355328 ∧ n + m.toNat ≤ maxLen ∧
          c (.own S.length (n + m.toNat)) (S ++ [some ⟨e, i.size, (ob.xs.drop off).take n ++ List.replicate m.toNat (zeroEl agg zero)⟩])
      | _ => False) : OpX P o E S c := by
  intro ρ I w a next Q hs he hn
  have g1 := dOpd_sound (a := a) hx fun t ht => he t (slots_mem (by simp [hop, Op.operands, Call.operands, ht]))
  have g2 := dOpd_sound (a := a) hy fun t ht => he t (slots_mem (by simp [hop, Op.operands, Call.operands, ht]))
  rw [e2, rd_int] at g2
  have hexec : ∀ v w', (Builtin.append_ #[T, tn] o.type #[a.eval x, a.eval y]).run P w = .ok v w' → (execOp a.eval o).run P w = .ok (.value v) w' := fun v w' hr => by
    simp [execOp, hop, resolve, invoke, builtin, hr]
  obtain ⟨zv, hzv, hz1, hz2⟩ := zero_info hi hz
  have hzsz : zv.cells.size = i.size := by have := (dOfs_sound (ρ := ρ) (I := I) (w := w) hz1).1; simp at this; omega
  have hzr : RDc ρ I w zv.cells.toList (zeroEl agg zero) := zeroEl_sound hz1 h1
  obtain ⟨p, rfl⟩ : ∃ p : Nat, m = p := ⟨m.toNat, by omega⟩
  simp only [Int.toNat_natCast] at h
  have hp : 0 < p := by omega
  split at h
  · rename_i e1
    rw [e1, rd_nils] at g1
    obtain ⟨xa, hxv⟩ := g1
    obtain ⟨hb, hml, hc⟩ := h
    have hold : (Builtin.firstCells i.size 0 (.slice xa 0 0)).run P w.drew = .ok ([] : List Value).toArray w.drew := by
      cases xa <;> simp [Builtin.firstCells, loadCells, loadCellsFrom]
    have hrun := run_append_grow_zeros (P := P) w T tn o.type e i zv k kn hT htn hi hzv xa 0 0 [] hold p hp hsz0 (by omega) (by unfold maxLen at hml; omega) (by omega) (growslice_fits (by omega) (by simpa using hb))
    simp only [Nat.zero_add] at hrun
    obtain ⟨hcap1, hcap2⟩ := grownCap_bounds w p 0 e hml
    obtain ⟨ρ', r1, r2, r3⟩ := grow_new (e := e) (i := i) (zv := zv) (vs := List.replicate p zv.cells.toList) (ys := List.replicate p (zeroEl agg zero)) (cap := grownCap w p 0 e) hs (by simp) (fun q hq => by simp [hzsz]) (fun q hq hq' => by simp only [List.getElem_replicate]; exact hzr)
      (by simpa using hcap1) hcap2 hzsz (csv := (#[] : Array Value) ++ Builtin.zeroCells zv.cells p ++ Builtin.zeroCells zv.cells (grownCap w p 0 e - p)) (by simp [zcells_eq hzsz])
    rw [List.length_replicate] at r2
    exact wp_value (hexec _ _ (by rw [hxv, g2]; exact hrun)) (hn _ _ _ _ _ _ hc r1 r2 (r3 _))
  · rename_i oo off n cap e1
    obtain ⟨ob, hob, hosz, hlen, hg, hb, hml, hc⟩ := h
    rw [e1] at g1
    obtain ⟨b, cur, hρ, hxv, hncap, hcapm, hcur, hcsz, us, hul, hus, hur, huc⟩ := part_src hs hob hosz hlen g1
    have hul2 : us.flatten.length = n * i.size := by rw [flat_len hus, hul]
    have hold : (Builtin.firstCells i.size n (.slice (some ⟨b, off * i.size, none⟩) n cap)).run P w.drew = .ok us.flatten.toArray w.drew :=
      run_firstCells_some (P := P) w.drew i.size n ⟨b, off * i.size, none⟩ n cap us.flatten hul2 (fun j u hj => by rw [Addr.add_none]; simpa using huc j u hj)
    have hrun := run_append_grow_zeros (P := P) w T tn o.type e i zv k kn hT htn hi hzv (some ⟨b, off * i.size, none⟩) n cap us.flatten hold p hp hsz0 hg (by unfold maxLen at hml; omega) (Nat.le_trans (Nat.mul_le_mul_right _ (by omega)) (Nat.le_trans hb (by omega))) (growslice_fits (by omega) hb)
    obtain ⟨hcap1, hcap2⟩ := grownCap_bounds w (n + p) cap e hml
    have hpl : ((ob.xs.drop off).take n).length = n := by simp; omega
    have hal : ((ob.xs.drop off).take n ++ List.replicate p (zeroEl agg zero)).length = n + p := by rw [List.length_append, hpl, List.length_replicate]
    obtain ⟨ρ', r1, r2, r3⟩ := grow_new (e := e) (i := i) (zv := zv) (vs := us ++ List.replicate p zv.cells.toList) (ys := (ob.xs.drop off).take n ++ List.replicate p (zeroEl agg zero)) (cap := grownCap w (n + p) cap e) hs (by simp only [List.length_append, List.length_replicate]; omega)
      (fun q hq => by
        rw [List.getElem_append]
        split
        · exact hus _ _
        · simp [hzsz])
      (fun q hq hq' => by
        rw [List.getElem_append, List.getElem_append]
        by_cases hqn : q < n
        · rw [dif_pos (by omega), dif_pos (by omega)]
          exact hur _ _ _
        · rw [dif_neg (by omega), dif_neg (by omega)]
          simp only [List.getElem_replicate]
          exact hzr)
      (by rw [hal]; exact hcap1) hcap2 hzsz
      (csv := us.flatten.toArray ++ Builtin.zeroCells zv.cells p ++ Builtin.zeroCells zv.cells (grownCap w (n + p) cap e - (n + p))) (by rw [hal]; simp [zcells_eq hzsz])
    rw [hal] at r2
    exact wp_value (hexec _ _ (by rw [hxv, g2]; exact hrun)) (hn _ _ _ _ _ _ hc r1 r2 (r3 _))
  · exact h.elim

end ops
end Go.V
