/- A part of the proofs about laws of the page tree (see the text that bears the law): a small language of steps, its rules, and what the functions of the program return. -/
import Derived.Test.YtjbihdcdamchnaaVJ
set_option linter.all false
set_option linter.unusedVariables false
set_option linter.unusedSimpArgs false
namespace Go.V

theorem made_seg {z : Array Value} {n i sz : Nat} (hz : z.size = sz) (hi : i < n) : ((madeCells z (n * sz)).toList.drop (i * sz)).take sz = z.toList := by
  have hle : i * sz + sz ≤ n * sz := by
    have : (i + 1) * sz ≤ n * sz := Nat.mul_le_mul_right _ hi
    rw [Nat.add_mul] at this; omega
  apply List.ext_getElem?
  intro m
  rw [seg_at]
  by_cases hm : m < sz
  · simp only [hm, if_true]
    have h1 : i * sz + m < n * sz := by omega
    subst hz
    have h2 : (i * z.size + m) % z.size = m := by
      rw [Nat.mul_comm, Nat.mul_add_mod, Nat.mod_eq_of_lt hm]
    simp only [madeCells, Array.toList_map, Array.toList_range, List.getElem?_map, List.getElem?_range h1, Option.map_some, h2]
    simp [hm]
  · simp [hm, hz]

def zeroEl (agg : Bool) (zero : List D) : D := if agg then .agg zero else zero.headD .any
theorem zeroEl_sound {ρ : Rho} {I : Nat → Prop} {w : World} {zv : Value} {zero : List D} {agg : Bool} (hz : dOfs zv.cells.toList = some zero) (h1 : agg = false → zero.length = 1) :
    RDc ρ I w zv.cells.toList (zeroEl agg zero) := by
  have g1 := dOfs_sound (ρ := ρ) (I := I) (w := w) hz
  cases agg with
  | true => exact g1
  | false =>
    have := h1 rfl
    match zero, this with
    | [z], _ =>
      match hv : zv.cells.toList, g1.1 with
      | [v], _ =>
        rw [hv] at hz
        simp only [dOfs] at hz
        split at hz <;> simp at hz
        rename_i d' ds' h3 h4
        obtain ⟨rfl, rfl⟩ := hz
        exact dOf1_rdc h3

/-- an own object goes on in a new one -/
theorem app_st {ρ : Rho} {I : Nat → Prop} {w w' : World} {S : Store} {o b2 sz : Nat} {ob ob' : Ob} {cs' : Array Value} (hs : St ρ I w S)
    (hSo : S[o]? = some (some ob)) (t : Tr ρ I w (ρ ++ [some (b2, sz)]) I w') 
    (hnI : ¬ I b2) (hb2 : b2 < w'.heap.size) (hnew : ∀ o' sz' ob2, o' ≠ o → S[o']? = some (some ob2) → ρ[o']? ≠ some (some (b2, sz'))) (hsz : sz = ob'.sz)
    (hcs : w'.heap[b2]? = some (.cells cs' ob'.ty (0, 0))) (hws : w.heap.size ≤ w'.heap.size) (hl : ob'.xs.length * sz ≤ cs'.size)
    (hoth : ∀ o' b' sz' ob2, o' ≠ o → S[o']? = some (some ob2) → ρ[o']? = some (some (b', sz')) → w'.heap[b']? = w.heap[b']?)
    (hr : ∀ i (h : i < ob'.xs.length), RDc ρ I w ((cs'.toList.drop (i * sz)).take sz) ob'.xs[i]) : St (ρ ++ [some (b2, sz)]) I w' (S.set o none ++ [some ob']) where
  len := by simp [hs.len]
  old := fun b hb => Nat.lt_of_lt_of_le (hs.old b hb) hws
  obs := fun o2 ob2 h2 => by
    have hlt : o < S.length := (List.getElem?_eq_some_iff.1 hSo).1
    rw [List.getElem?_append] at h2
    split at h2
    · rename_i h
      rw [List.getElem?_set] at h2
      split at h2
      · simp at h2
      · rename_i hne
        obtain ⟨b3, sz3, h5, h6, cs3, h7, h8, h9⟩ := hs.obs o2 ob2 h2
        exact ⟨b3, sz3, (t.ob o2 b3 sz3 h5).1, h6, cs3, by rw [hoth o2 b3 sz3 ob2 (fun e => hne e.symm) h2 h5]; exact h7, h8, fun i hi => (h9 i hi).tr t⟩
    · rename_i h
      simp only [List.getElem?_singleton] at h2
      split at h2 <;> simp at h2
      rename_i h0
      subst h2
      refine ⟨b2, sz, ?_, hsz, cs', hcs, hl, fun i hi => (hr i hi).tr t⟩
      simp at h h0
      rw [List.getElem?_append_right (by rw [hs.len]; omega), hs.len, h0]; rfl
  lt := fun o2 b' sz' h2 => by
    rw [List.getElem?_append] at h2
    split at h2
    · exact Nat.lt_of_lt_of_le (hs.lt o2 b' sz' h2) hws
    · simp only [List.getElem?_singleton] at h2
      split at h2 <;> simp at h2
      obtain ⟨rfl, rfl⟩ := h2
      exact hb2
  apart := fun o2 b' sz' ob2 hS h2 => by
    rw [List.getElem?_append] at h2 hS
    rw [hs.len] at h2
    split at h2
    · rename_i h
      rw [if_pos (by simpa using h)] at hS
      rw [List.getElem?_set] at hS
      split at hS
      · split at hS <;> simp at hS
      · exact hs.apart o2 b' sz' ob2 hS h2
    · simp only [List.getElem?_singleton] at h2
      split at h2 <;> simp at h2
      obtain ⟨rfl, rfl⟩ := h2
      exact hnI
  inj := fun o1 o2 b' sz1 sz2 ob1 ob2 hS1 hS2 h1 h2 => by
    rw [List.getElem?_append] at h1 h2 hS1 hS2
    rw [hs.len] at h1 h2
    have key : ∀ q (obq : Ob), (S.set o none)[q]? = some (some obq) → q ≠ o ∧ S[q]? = some (some obq) := fun q obq hq => by
      rw [List.getElem?_set] at hq
      split at hq
      · split at hq <;> simp at hq
      · rename_i hne; exact ⟨fun e => hne e.symm, hq⟩
    split at h1 <;> split at h2
    · rename_i g1 g2
      rw [if_pos (by simpa using g1)] at hS1
      rw [if_pos (by simpa using g2)] at hS2
      exact hs.inj o1 o2 b' sz1 sz2 ob1 ob2 (key _ _ hS1).2 (key _ _ hS2).2 h1 h2
    · rename_i g1 g2
      rw [if_pos (by simpa using g1)] at hS1
      simp only [List.getElem?_singleton] at h2
      split at h2 <;> simp at h2
      rw [← h2.1] at h1
      exact absurd h1 (hnew o1 sz1 ob1 (key _ _ hS1).1 (key _ _ hS1).2)
    · rename_i g1 g2
      rw [if_pos (by simpa using g2)] at hS2
      simp only [List.getElem?_singleton] at h1
      split at h1 <;> simp at h1
      rw [← h1.1] at h2
      exact absurd h2 (hnew o2 sz2 ob2 (key _ _ hS2).1 (key _ _ hS2).2)
    · rename_i g1 g2
      simp only [List.getElem?_singleton] at h1 h2
      split at h1 <;> split at h2 <;> simp at h1 h2
      omega

/-- the elements that are appended -/
def elemsOf (S : Store) (sz : Nat) : D → Option (List D)
  | .nils => some []
  | .pv (.sl xs) => if xs.all (fun x => x.nc == sz) then some (xs.map .pv) else none
  | .own o n => match S[o]? with
    | some (some ob) => if ob.sz = sz ∧ n ≤ ob.xs.length then some (ob.xs.take n) else none
    | _ => none
  | .sub o off n _ => match S[o]? with
    | some (some ob) => if ob.sz = sz ∧ off + n ≤ ob.xs.length then some ((ob.xs.drop off).take n) else none
    | _ => none
  | _ => none

/-- the source: m elements lie at an address, in cells that read so -/
theorem elems_src {ρ : Rho} {I : Nat → Prop} {w : World} {S : Store} {sz : Nat} {v : Value} {d : D} {ys : List D} (hs : St ρ I w S) (h : RD ρ I w v d) (he : elemsOf S sz d = some ys) :
    ∃ a cap, v = .slice a ys.length cap ∧ (ys = [] ∨ ∃ b off, ∃ vs : List (List Value), a = some ⟨b, off, none⟩ ∧ vs.length = ys.length ∧ (∀ i (h : i < vs.length), vs[i].length = sz) ∧
      (∀ i (h : i < vs.length) (h' : i < ys.length), RDc ρ I w vs[i] ys[i]) ∧ ∀ j u, vs.flatten[j]? = some u → w.cell? ⟨b, off + j, none⟩ = some u) := by
  cases d with
  | nils =>
    simp [elemsOf] at he; subst he
    obtain ⟨a, rfl⟩ := rd_nils.1 h
    exact ⟨a, 0, rfl, .inl rfl⟩
  | pv p =>
    cases p with
    | sl xs =>
      simp only [elemsOf] at he
      split at he <;> simp at he
      rename_i hall
      subst he
      have hnc : ∀ x ∈ xs, x.nc = sz := fun x hx => by have := List.all_eq_true.1 hall x hx; simpa using this
      rcases rd_sl h with ⟨rfl, a, cap, rfl, _⟩ | ⟨b, off, cap, sz', vs, rfl, h1, h2, h3, h4, h5, h6⟩
      · exact ⟨a, cap, by simp, .inl rfl⟩
      · refine ⟨some ⟨b, off, none⟩, cap, by simp, ?_⟩
        by_cases hx : xs.length = 0
        · left; simp [List.eq_nil_of_length_eq_zero hx]
        right
        have hsz : sz' = sz := by
          have e1 := h4 0 (by omega)
          have e2 := (h6 0 (by omega)).len
          rw [e1] at e2
          rw [e2]
          exact hnc _ (List.getElem_mem _)
        subst hsz
        have hL : ∀ i (hi : i < ((List.range xs.length).map vs).length), ((List.range xs.length).map vs)[i].length = sz' := fun i hi => by simp at hi ⊢; exact h4 i hi
        refine ⟨b, off, (List.range xs.length).map vs, rfl, by simp, hL, fun i hi hi' => ?_, fun j u hj => ?_⟩
        · simp only [List.getElem_map, List.getElem_range]
          exact h6 i (by simpa using hi)
        · have hjl : j < ((List.range xs.length).map vs).flatten.length := (List.getElem?_eq_some_iff.1 hj).1
          have hfl : ((List.range xs.length).map vs).flatten.length = xs.length * sz' := by
            rw [List.length_flatten, List.map_map]
            have : (List.length ∘ vs : Nat → Nat) = fun i => (vs i).length := rfl
            rw [show (List.range xs.length).map (List.length ∘ vs) = List.replicate xs.length sz' from by
              apply List.ext_getElem (by simp)
              intro i h1 h2
              simp at h1 ⊢
              exact h4 i h1]
            simp
          have hsz0 : 0 < sz' := by
            rcases Nat.eq_zero_or_pos sz' with h | h
            · subst h; omega
            · exact h
          have hdiv : j / sz' < xs.length := (Nat.div_lt_iff_lt_mul hsz0).2 (by omega)
          have hmod : j % sz' < sz' := Nat.mod_lt _ hsz0
          have hjj : j / sz' * sz' + j % sz' = j := Nat.div_add_mod' j sz'
          have := flatten_at ((List.range xs.length).map vs) (j / sz') (by simpa using hdiv) hL (j % sz') hmod
          rw [hjj, hj] at this
          simp only [List.getElem_map, List.getElem_range] at this
          have hl := h4 (j / sz') hdiv
          rw [List.getElem?_eq_getElem (by omega)] at this
          have hc := h5 (j / sz') hdiv (j % sz') (by omega)
          rw [show off + j / sz' * sz' + j % sz' = off + j by omega] at hc
          rw [hc, this]
    | _ => simp [elemsOf] at he
  | own o n =>
    simp only [elemsOf] at he
    split at he <;> simp at he
    rename_i ob hob
    obtain ⟨⟨hsz, hn⟩, rfl⟩ := he
    obtain ⟨b, sz', cap, cs, E', h1, rfl, h2, h3, h4, h5⟩ := rd_own.1 h
    obtain ⟨b', sz'', h6, h7, cs', h8, h9, h10⟩ := hs.obs o ob hob
    rw [h1] at h6
    simp at h6
    obtain ⟨rfl, rfl⟩ := h6
    have : sz' = sz := by rw [h7, hsz]
    subst this
    refine ⟨_, cap, by simp [hn], .inr ⟨b, 0, (List.range n).map fun i => (cs'.toList.drop (i * sz')).take sz', rfl, by simp [hn], fun i hi => ?_, fun i hi hi' => ?_, fun j u hj => ?_⟩⟩
    · simp at hi ⊢
      have : (i + 1) * sz' ≤ ob.xs.length * sz' := Nat.mul_le_mul_right _ (by omega)
      rw [Nat.add_mul] at this
      omega
    · simp only [List.getElem_map, List.getElem_range, List.getElem_take]
      exact h10 i (by simp at hi; omega)
    · have hL : ∀ i (hi : i < ((List.range n).map fun i => (cs'.toList.drop (i * sz')).take sz').length), ((List.range n).map fun i => (cs'.toList.drop (i * sz')).take sz')[i].length = sz' := fun i hi => by
        simp at hi ⊢
        have : (i + 1) * sz' ≤ ob.xs.length * sz' := Nat.mul_le_mul_right _ (by omega)
        rw [Nat.add_mul] at this
        omega
      have hjl := (List.getElem?_eq_some_iff.1 hj).1
      have hfl : ((List.range n).map fun i => (cs'.toList.drop (i * sz')).take sz').flatten.length = n * sz' := by
        rw [List.length_flatten, List.map_map]
        rw [show (List.range n).map (List.length ∘ fun i => (cs'.toList.drop (i * sz')).take sz') = List.replicate n sz' from by
          apply List.ext_getElem (by simp)
          intro i h1 h2
          have := hL i (by simpa using h1)
          simpa using this]
        simp
      have hsz0 : 0 < sz' := by
        rcases Nat.eq_zero_or_pos sz' with h | h
        · subst h; omega
        · exact h
      have hdiv : j / sz' < n := (Nat.div_lt_iff_lt_mul hsz0).2 (by omega)
      have hmod : j % sz' < sz' := Nat.mod_lt _ hsz0
      have hjj : j / sz' * sz' + j % sz' = j := Nat.div_add_mod' j sz'
      have := flatten_at _ (j / sz') (by simpa using hdiv) hL (j % sz') hmod
      rw [hjj, hj] at this
      simp only [List.getElem_map, List.getElem_range] at this
      rw [seg_at, if_pos hmod, hjj] at this
      simp only [World.cell?, h8, Option.isSome_none, Bool.false_eq_true, if_false, Nat.zero_add]
      simpa using this.symm
  | sub o off n cap =>
    simp only [elemsOf] at he
    split at he <;> simp at he
    rename_i ob hob
    obtain ⟨⟨hsz, hn⟩, rfl⟩ := he
    obtain ⟨b, sz', cs, E', h1, rfl, h2, h3, h4, h5⟩ := rd_sub.1 h
    obtain ⟨b', sz'', h6, h7, cs', h8, h9, h10⟩ := hs.obs o ob hob
    rw [h1] at h6
    simp at h6
    obtain ⟨rfl, rfl⟩ := h6
    have : sz' = sz := by rw [h7, hsz]
    subst this
    refine ⟨_, cap, by simp; omega, .inr ⟨b, off * sz', (List.range n).map fun i => (cs'.toList.drop ((off + i) * sz')).take sz', rfl, by simp; omega, fun i hi => ?_, fun i hi hi' => ?_, fun j u hj => ?_⟩⟩
    · simp at hi ⊢
      have : (off + i + 1) * sz' ≤ ob.xs.length * sz' := Nat.mul_le_mul_right _ (by omega)
      rw [Nat.add_mul] at this
      omega
    · simp only [List.getElem_map, List.getElem_range, List.getElem_take, List.getElem_drop]
      exact h10 (off + i) (by simp at hi; omega)
    · have hL : ∀ i (hi : i < ((List.range n).map fun i => (cs'.toList.drop ((off + i) * sz')).take sz').length), ((List.range n).map fun i => (cs'.toList.drop ((off + i) * sz')).take sz')[i].length = sz' := fun i hi => by
        simp at hi ⊢
        have : (off + i + 1) * sz' ≤ ob.xs.length * sz' := Nat.mul_le_mul_right _ (by omega)
        rw [Nat.add_mul] at this
        omega
      have hjl := (List.getElem?_eq_some_iff.1 hj).1
      have hfl : ((List.range n).map fun i => (cs'.toList.drop ((off + i) * sz')).take sz').flatten.length = n * sz' := by
        rw [List.length_flatten, List.map_map]
        rw [show (List.range n).map (List.length ∘ fun i => (cs'.toList.drop ((off + i) * sz')).take sz') = List.replicate n sz' from by
          apply List.ext_getElem (by simp)
          intro i h1 h2
          have := hL i (by simpa using h1)
          simpa using this]
        simp
      have hsz0 : 0 < sz' := by
        rcases Nat.eq_zero_or_pos sz' with h | h
        · subst h; omega
        · exact h
      have hdiv : j / sz' < n := (Nat.div_lt_iff_lt_mul hsz0).2 (by omega)
      have hmod : j % sz' < sz' := Nat.mod_lt _ hsz0
      have hjj : j / sz' * sz' + j % sz' = j := Nat.div_add_mod' j sz'
      have := flatten_at _ (j / sz') (by simpa using hdiv) hL (j % sz') hmod
      rw [hjj, hj] at this
      simp only [List.getElem_map, List.getElem_range] at this
      rw [seg_at, if_pos hmod, Nat.add_mul, Nat.add_assoc, hjj] at this
      simp only [World.cell?, h8, Option.isSome_none, Bool.false_eq_true, if_false]
      simpa using this.symm
  | _ => simp [elemsOf] at he

theorem grow_drew (I : Nat → Prop) (w : World) : Grow I w I w.drew := ⟨rfl, rfl, rfl, Nat.le_refl _, fun _ _ => rfl, fun _ h => h, fun _ h => .inl h⟩

theorem flat_len {sz : Nat} {vs : List (List Value)} (h : ∀ i (h : i < vs.length), vs[i].length = sz) : vs.flatten.length = vs.length * sz := by
  induction vs with
  | nil => simp
  | cons v vs ih =>
    have h0 := h 0 (by simp)
    simp only [List.getElem_cons_zero] at h0
    rw [List.flatten_cons, List.length_append, h0, ih (fun i hi => by have := h (i + 1) (by simpa using hi); simpa using this)]
    simp only [List.length_cons, Nat.add_mul]; omega

theorem flat_seg {sz : Nat} {vs : List (List Value)} (h : ∀ i (h : i < vs.length), vs[i].length = sz) (i : Nat) (hi : i < vs.length) : (vs.flatten.drop (i * sz)).take sz = vs[i] := by
  apply List.ext_getElem?
  intro m
  rw [seg_at]
  split
  · rename_i hm; exact flatten_at vs i hi h m hm
  · rename_i hm
    rw [List.getElem?_eq_none (by rw [h i hi]; omega)]

section ops
variable {P : Program} {S : Store} {o : Oper} {E : Env} {c : D → Store → Prop}

theorem okS_mks {T e : TypeId} {i : TypeInfo} {x : Operand} {x' : Opd} {zero : List D} {agg : Bool} {k : IntKind} {n : Int} (hop : o.op = .makeSlice T x x) (hT : P.underlying T = some (.slice e)) (hi : P.info? e = some i)
    (hz : zeroT P e = some zero) (hzl : zero.length = i.size) (h1 : agg = false → zero.length = 1) (hx : dOpd x = some x') (e1 : ev E x' = .pv (.int k n)) (h0 : 0 ≤ n) (hb : (i.bytes : Int) * n ≤ 281474976710656) (h63 : n ≤ 9223372036854775807)
    (h : c (.own S.length n.toNat) (S ++ [some ⟨e, i.size, List.replicate n.toNat (zeroEl agg zero)⟩])) : OpX P o E S c := by
  intro ρ I w a next Q hs he hn
  have g := dOpd_sound (a := a) hx fun t ht => he t (slots_mem (by simp [hop, Op.operands, ht]))
  rw [e1, rd_int] at g
  obtain ⟨zv, hz1, hz2⟩ := run_zero hz
  have hzv : i.zero = some zv := by
    unfold zeroT at hz
    have h2 := hz2 w
    simp only [zeroValue, typeInfo, Sem.run_bind, run_program, Result.andThen_ok, hi] at h2
    cases hzz : i.zero with
    | none => simp [hzz] at h2
    | some z => simp [hzz] at h2; rw [h2]
  have hsz : zv.cells.size = i.size := by have := (dOfs_sound (ρ := ρ) (I := I) (w := w) hz1).1; simp at this; omega
  have hr := run_make (P := P) w T e i zv hT hi hzv k k n n h0 (Int.le_refl _) hb h63
  let cs := madeCells zv.cells (n.toNat * i.size)
  let ob : Ob := ⟨e, i.size, List.replicate n.toNat (zeroEl agg zero)⟩
  have hcl : cs.size = n.toNat * i.size := size_madeCells _ _
  have hh : (w.alloc (.cells cs e)).heap = w.heap.push (.cells cs ob.ty) := rfl
  refine wp_value (u := .slice (some ⟨w.heap.size, 0, none⟩) n.toNat n.toNat) (w' := w.alloc (.cells cs e)) ?_ ?_
  · simp [execOp, hop, g, hr, cs]
  · refine hn _ _ _ _ _ _ h (push_st (ob := ob) hs hh (by simp [ob, hcl]) ?_) ?_ (push_ext (ob := ob) hs hh rfl rfl rfl)
    · intro q hq
      have hq' : q < n.toNat := by simpa [ob] using hq
      have e2 : (cs.toList.drop (q * ob.sz)).take ob.sz = zv.cells.toList := made_seg hsz hq'
      rw [e2]
      simp only [ob, List.getElem_replicate]
      exact zeroEl_sound hz1 h1
    · refine rd_own.2 ⟨w.heap.size, i.size, n.toNat, cs, e, push_ptr (ob := ob) hs, rfl, Nat.le_refl _, by unfold maxLen; omega, ?_, by rw [hcl]; exact Nat.le_refl _⟩
      show (w.heap.push _)[w.heap.size]? = _
      rw [Array.getElem?_push]; simp

/-- nothing is appended -/
theorem run_append_zero (t ty e : TypeId) (i : TypeInfo) (ht : P.underlying t = some (.slice e)) (hi : P.info? e = some i) (base : Option Addr) (n cap : Nat) (hc : n ≤ cap) (a : Option Addr) (m : Nat) (w : World) :
    (Builtin.append_ #[t, t] ty #[.slice base n cap, .slice a 0 m]).run P w = .ok (.slice base n cap) w := by
  cases a <;> cases base <;> simp [Builtin.append_, run_underlying ht, sizeOf, typeInfo, hi, Builtin.lenOf, hc, Builtin.firstCells, loadCells, loadCellsFrom, storeCells]

theorem isCellsOK {ρ : Rho} {I : Nat → Prop} {w : World} {vs : List Value} {d : D} (h : RDc ρ I w vs d) (hd : ∀ cs, cellsD d = some cs → ∀ c ∈ cs, isCell c = true) (hn : cellsD d ≠ none) : ∀ u ∈ vs, u.oneCell' = true := by
  intro u hu
  cases hcs : cellsD d with
  | none => exact absurd hcs hn
  | some cs =>
    obtain ⟨h1, h2⟩ := rdc_cells h hcs
    obtain ⟨q, hq, rfl⟩ := List.getElem_of_mem hu
    have hq' : q < cs.length := by omega
    obtain ⟨k1, k2, k3⟩ := isCell_one (hd cs hcs _ (List.getElem_mem hq'))
    exact oneCell_of_r1 (h2 q hq hq') k1 k2 k3

def cellOK (d : D) : Bool :=
  match cellsD d with
  | some cs => cs.all isCell
  | none => false
theorem cellOK_sound {ρ : Rho} {I : Nat → Prop} {w : World} {vs : List Value} {d : D} (h : RDc ρ I w vs d) (hd : cellOK d = true) : ∀ u ∈ vs, u.oneCell' = true := by
  unfold cellOK at hd
  split at hd
  · rename_i cs hcs
    exact isCellsOK h (fun cs' h' c hc => by rw [hcs] at h'; simp at h'; subst h'; exact List.all_eq_true.1 hd c hc) (by rw [hcs]; simp)
  · simp at hd

theorem grownCap_bounds (w : World) (need old : Nat) (e : TypeId) (h : need ≤ maxLen) : need ≤ grownCap w need old e ∧ grownCap w need old e ≤ maxLen :=
  ⟨grownCap_ge w need old e, grownCap_le_maxLen w need old e h⟩

theorem okS_app {T e : TypeId} {i : TypeInfo} {x y : Operand} {x' y' : Opd} {zero : List D} {ys : List D} (hop : o.op = .call { callee := .builtin .append, args := #[x, y], argTypes := #[T, T] })
    (hT : P.underlying T = some (.slice e)) (hi : P.info? e = some i) (hz : zeroT P e = some zero) (hzl : zero.length = i.size) (hx : dOpd x = some x') (hy : dOpd y = some y')
    (hys : elemsOf S i.size (ev E y') = some ys) (hall : ys.all cellOK = true)
    (h : match ev E x' with
      | .nils => (ys = [] → c .nils S) ∧ (ys ≠ [] → ys.length * i.bytes ≤ 140737488355328 ∧ ys.length ≤ maxLen ∧ c (.own S.length ys.length) (S ++ [some ⟨e, i.size, ys⟩]))
      | .own oo n => (ys = [] → c (.own oo n) S) ∧ (ys ≠ [] → ∃ ob, S[oo]? = some (some ob) ∧ ob.ty = e ∧ ob.sz = i.size ∧ ob.xs.length = n ∧ (n + ys.length) * i.bytes ≤ 140737488355328 ∧ n + ys.length ≤ maxLen ∧
          c (.own S.length (n + ys.length)) (S.set oo none ++ [some { ob with xs := ob.xs ++ ys }]))
      | _ => False) : OpX P o E S c := by
  intro ρ I w a next Q hs he hn
  have g1 := dOpd_sound (a := a) hx fun t ht => he t (slots_mem (by simp [hop, Op.operands, Call.operands, ht]))
  have g2 := dOpd_sound (a := a) hy fun t ht => he t (slots_mem (by simp [hop, Op.operands, Call.operands, ht]))
  obtain ⟨ya, ycap, hyv, hsrc⟩ := elems_src hs g2 hys
  have hexec : ∀ v w', (Builtin.append_ #[T, T] o.type #[a.eval x, a.eval y]).run P w = .ok v w' → (execOp a.eval o).run P w = .ok (.value v) w' := fun v w' hr => by
    simp [execOp, hop, resolve, invoke, builtin, hr]
  obtain ⟨zv, hz1, hz2⟩ := run_zero hz
  have hzv : i.zero = some zv := by
    unfold zeroT at hz
    have h2 := hz2 w
    simp only [zeroValue, typeInfo, Sem.run_bind, run_program, Result.andThen_ok, hi] at h2
    cases hzz : i.zero with
    | none => simp [hzz] at h2
    | some z => simp [hzz] at h2; rw [h2]
  have hzsz : zv.cells.size = i.size := by have := (dOfs_sound (ρ := ρ) (I := I) (w := w) hz1).1; simp at this; omega
  split at h
  · -- nils
    rename_i e1
    rw [e1, rd_nils] at g1
    obtain ⟨xa, hxv⟩ := g1
    by_cases hy0 : ys = []
    · have hc := h.1 hy0
      subst hy0
      refine wp_value (hexec _ _ ?_) (hn _ _ _ _ _ _ hc hs (rd_nils.2 ⟨xa, rfl⟩) (Ext.refl _ _ _ _))
      rw [hxv, hyv]
      exact run_append_zero T o.type e i hT hi xa 0 0 (Nat.le_refl _) ya ycap w
    · obtain ⟨hb, hml, hc⟩ := h.2 hy0
      rcases hsrc with h0 | ⟨b, off, vs, rfl, hvl, hvs, hvr, hvc⟩
      · exact absurd h0 hy0
      have hlen : 0 < ys.length := List.length_pos_iff.2 hy0
      have hfl : vs.flatten.length = ys.length * i.size := by rw [flat_len hvs, hvl]
      have hcells : ∀ j u, vs.flatten[j]? = some u → w.cell? ((⟨b, off, none⟩ : Addr).add j) = some u := fun j u hj => by rw [Addr.add_none]; exact hvc j u hj
      have hsm : ((ys.length : Nat) : Int) ≤ 9223372036854775807 := by unfold maxLen at hml; omega
      obtain ⟨hcap1, hcap2⟩ := grownCap_bounds w ys.length 0 e hml
      let cs := vs.flatten.toArray ++ Builtin.zeroCells zv.cells (grownCap w ys.length 0 e - ys.length)
      have hcsz : cs.size = grownCap w ys.length 0 e * i.size := by
        simp only [cs, Array.size_append, List.size_toArray, hfl, size_zeroCells, hzsz, ← Nat.add_mul]
        congr 1; omega
      let ob : Ob := ⟨e, i.size, ys⟩
      have hsd := hs.grow (grow_drew I w)
      have hh : (w.drew.alloc (.cells cs e)).heap = w.drew.heap.push (.cells cs ob.ty) := rfl
      have hrun : (Builtin.append_ #[T, T] o.type #[a.eval x, a.eval y]).run P w = .ok (.slice (some ⟨w.heap.size, 0, none⟩) ys.length (grownCap w ys.length 0 e)) (w.drew.alloc (.cells cs e)) := by
        rw [hxv, hyv]
        cases xa with
        | none => exact run_append_nil (P := P) w T o.type e i zv hT hi hzv ⟨b, off, none⟩ ys.length ycap vs.flatten hfl hcells hlen hsm (by omega)
        | some xb =>
          have := run_append_grow (P := P) w T o.type e i zv hT hi hzv xb 0 0 [] (by simp) (by simp) ⟨b, off, none⟩ ys.length ycap vs.flatten hfl hcells (by omega) (by omega) (growslice_fits (by omega) (by simpa using hb))
          simpa [cs] using this
      refine wp_value (hexec _ _ hrun) (hn _ _ _ _ _ _ hc (push_st (ob := ob) hsd hh (by simp only [ob]; rw [hcsz]; exact Nat.mul_le_mul_right _ hcap1) ?_) ?_ (((grow_drew I w).ext' hs).trans (push_ext (ob := ob) (S := S) hsd hh rfl rfl rfl)))
      · intro q hq
        have hq' : q < vs.length := by rw [hvl]; exact hq
        have e2 : (cs.toList.drop (q * i.size)).take i.size = vs[q] := by
          have hle : q * i.size + i.size ≤ vs.flatten.length := by
            rw [hfl]
            have : (q + 1) * i.size ≤ ys.length * i.size := Nat.mul_le_mul_right _ (by omega)
            rw [Nat.add_mul] at this; omega
          rw [← flat_seg hvs q hq']
          apply List.ext_getElem?
          intro m
          rw [seg_at, seg_at]
          split
          · rename_i hm
            simp only [cs, Array.toList_append]
            rw [List.getElem?_append_left (by omega)]
          · rfl
        show RDc ρ I w.drew ((cs.toList.drop (q * i.size)).take i.size) ys[q]
        rw [e2]
        exact RDc.mono (fun _ h => h) (hs.keeps (grow_drew I w)) (hvr q hq' hq)
      · refine rd_own.2 ⟨w.heap.size, i.size, grownCap w ys.length 0 e, cs, e, push_ptr (ob := ob) hsd, rfl, hcap1, hcap2, ?_, by rw [hcsz]; exact Nat.le_refl _⟩
        show (w.heap.push _)[w.heap.size]? = _
        rw [Array.getElem?_push]; simp
  · -- own
    rename_i oo n e1
    rw [e1, rd_own] at g1
    obtain ⟨b0, sz0, cap, cur, E0, hρ, hxv, hncap, hcapm, hcur, hcursz⟩ := g1
    by_cases hy0 : ys = []
    · have hc := h.1 hy0
      subst hy0
      refine wp_value (hexec _ _ ?_) (hn _ _ _ _ _ _ hc hs (rd_own.2 ⟨b0, sz0, cap, cur, E0, hρ, rfl, hncap, hcapm, hcur, hcursz⟩) (Ext.refl _ _ _ _))
      rw [hxv, hyv]
      exact run_append_zero T o.type e i hT hi _ n cap hncap ya ycap w
    · obtain ⟨ob, hob, hty, hobsz, hxl, hb, hml, hc⟩ := h.2 hy0
      rcases hsrc with h0 | ⟨b, off, vs, rfl, hvl, hvs, hvr, hvc⟩
      · exact absurd h0 hy0
      obtain ⟨b', sz', h6, h7, cur', h8, h9, h10⟩ := hs.obs oo ob hob
      rw [hρ] at h6
      simp at h6
      obtain ⟨rfl, rfl⟩ := h6
      rw [hcur] at h8
      simp at h8
      obtain ⟨rfl, rfl⟩ := h8
      have hsz0 : sz0 = i.size := by rw [h7, hobsz]
      subst hsz0
      have hlen : 0 < ys.length := List.length_pos_iff.2 hy0
      have hfl : vs.flatten.length = ys.length * i.size := by rw [flat_len hvs, hvl]
      have hcells : ∀ j u, vs.flatten[j]? = some u → w.cell? ((⟨b, off, none⟩ : Addr).add j) = some u := fun j u hj => by rw [Addr.add_none]; exact hvc j u hj
      have hone : ∀ u ∈ vs.flatten, u.oneCell' = true := fun u hu => by
        obtain ⟨l, hl, hul⟩ := List.mem_flatten.1 hu
        obtain ⟨q, hq, rfl⟩ := List.getElem_of_mem hl
        have hq' : q < ys.length := by omega
        exact cellOK_sound (hvr q hq hq') (List.all_eq_true.1 hall _ (List.getElem_mem hq')) u hul
      have hnsz : n * i.size ≤ cur.size := by rw [← hxl]; exact h9
      have hmul : (n + ys.length) * i.size = n * i.size + ys.length * i.size := Nat.add_mul _ _ _
      let ob' : Ob := { ob with xs := ob.xs ++ ys }
      by_cases hroom : n + ys.length ≤ cap
      · have hfit : n * i.size + vs.flatten.length ≤ cur.size := by
          rw [hfl, ← hmul]; exact Nat.le_trans (Nat.mul_le_mul_right _ hroom) hcursz
        have hrun := run_append_room (P := P) w T o.type e i hT hi b0 n cap cur (hty ▸ hcur) ⟨b, off, none⟩ ys.length ycap vs.flatten hfl hcells hone hroom hfit
        let L' := (cur.toList.take (n * i.size) ++ vs.flatten ++ cur.toList.drop (n * i.size + vs.flatten.length)).toArray
        have hL : L'.size = cur.size := by simp only [L', List.size_toArray, List.length_append, List.length_take, List.length_drop, Array.length_toList]; omega
        have hb' : (w.setRow b0 L').heap[b0]? = some (.cells L' ob.ty (0, 0)) := setRow_heap w b0 cur L' ob.ty (0, 0) hcur
        have hoth : ∀ k, k ≠ b0 → (w.setRow b0 L').heap[k]? = w.heap[k]? := fun k hk => setRow_other w b0 k L' hk
        have hnI := hs.apart oo b0 _ ob hob hρ
        have t0 : Tr ρ I w ρ I (w.setRow b0 L') := set_tr hcur hnI hb' hL hoth
        have hget : ∀ (x : Option (Nat × Nat)), (ρ ++ [x])[S.length]? = some x := fun x => by rw [List.getElem?_append_right (by rw [hs.len]; omega), hs.len]; simp
        have hold : ∀ (o' b' sz' : Nat) (x : Option (Nat × Nat)), ρ[o']? = some (some (b', sz')) → (ρ ++ [x])[o']? = some (some (b', sz')) := fun o' b' sz' x ho' => by
          rw [List.getElem?_append_left (List.getElem?_eq_some_iff.1 ho').1]; exact ho'
        have t : Tr ρ I w (ρ ++ [some (b0, i.size)]) I (w.setRow b0 L') := ⟨t0.im, fun o' b' sz' ho' => ⟨hold o' b' sz' _ ho', (t0.ob o' b' sz' ho').2⟩⟩
        have hext : Ext S.length ρ I w (ρ ++ [some (b0, i.size)]) I (w.setRow b0 L') := by
          refine t.ext rfl rfl rfl (by simp) (by simp) (fun k _ hk => hoth k fun e => hk oo _ (e ▸ hρ)) (fun _ h => .inl h) fun o' b' sz' ho' => ?_
          rw [List.getElem?_append] at ho'
          split at ho'
          · exact .inl ⟨o', sz', ho'⟩
          · simp only [List.getElem?_singleton] at ho'
            split at ho' <;> simp at ho'
            exact .inl ⟨oo, _, ho'.1 ▸ hρ⟩
        have hseg : ∀ q, q < n → (L'.toList.drop (q * i.size)).take i.size = (cur.toList.drop (q * i.size)).take i.size := fun q hq => by
          have hle : q * i.size + i.size ≤ n * i.size := by
            have : (q + 1) * i.size ≤ n * i.size := Nat.mul_le_mul_right _ hq
            rw [Nat.add_mul] at this; omega
          apply List.ext_getElem?
          intro m
          rw [seg_at, seg_at]
          split
          · simp only [L']
            rw [seg_get (by simpa using hfit), if_pos (by omega)]
          · rfl
        have hseg2 : ∀ q (hq : q < vs.length), (L'.toList.drop ((n + q) * i.size)).take i.size = vs[q] := fun q hq => by
          have hle : q * i.size + i.size ≤ vs.flatten.length := by
            rw [hfl]
            have : (q + 1) * i.size ≤ ys.length * i.size := Nat.mul_le_mul_right _ (by omega)
            rw [Nat.add_mul] at this; omega
          rw [← flat_seg hvs q hq]
          apply List.ext_getElem?
          intro m
          rw [seg_at, seg_at, Nat.add_mul]
          split
          · simp only [L']
            rw [seg_get (by simpa using hfit), if_neg (by omega), if_pos (by omega)]
            congr 1; omega
          · rfl
        refine wp_value (hexec _ _ (by rw [hxv, hyv]; exact hrun)) (hn _ _ _ _ _ _ hc
          (app_st (ob' := ob') hs hob t hnI (by simp; exact hs.lt oo b0 _ hρ) (fun o' sz' ob2 hne hS' h' => hne (hs.inj o' oo b0 sz' _ ob2 ob hS' hob h' hρ)) (by simp [ob', hobsz]) hb' (by simp) ?_
            (fun o' b' sz' ob2 hne hS' h' => hoth b' (fun e => hne (hs.inj o' oo b' sz' _ ob2 ob hS' hob h' (e ▸ hρ)))) ?_)
          ?_ hext)
        · simp only [ob', List.length_append, hxl, hL]; rw [hmul]; omega
        · intro q hq
          by_cases hqn : q < n
          · rw [hseg q hqn]
            have : ob'.xs[q] = ob.xs[q]'(by omega) := by simp only [ob']; rw [List.getElem_append_left (by omega)]
            rw [this]
            exact h10 q (by omega)
          · have hq2 : q - n < vs.length := by simp [ob', hxl] at hq; omega
            have := hseg2 (q - n) hq2
            rw [show n + (q - n) = q by omega] at this
            rw [this]
            have e3 : ob'.xs[q] = ys[q - n]'(by omega) := by simp only [ob']; rw [List.getElem_append_right (by omega)]; congr 1; omega
            rw [e3]
            exact hvr _ hq2 (by omega)
        · exact rd_own.2 ⟨b0, i.size, cap, L', ob.ty, hget _, rfl, hroom, hcapm, hb', by rw [hL]; exact hcursz⟩
      · obtain ⟨hcap1, hcap2⟩ := grownCap_bounds w (n + ys.length) cap e hml
        have hsm : ((n + ys.length : Nat) : Int) ≤ 9223372036854775807 := by unfold maxLen at hml; omega
        let olds := cur.toList.take (n * i.size)
        have hol : olds.length = n * i.size := by simp only [olds, List.length_take, Array.length_toList]; omega
        have holds : ∀ j v, olds[j]? = some v → w.cell? ((⟨b0, 0, none⟩ : Addr).add j) = some v := fun j v hj => by
          rw [Addr.add_none, Nat.zero_add]
          simp only [World.cell?, hcur, Option.isSome_none, Bool.false_eq_true, if_false]
          simp only [olds, List.getElem?_take] at hj
          split at hj
          · simpa using hj
          · simp at hj
        have hrun := run_append_grow (P := P) w T o.type e i zv hT hi hzv ⟨b0, 0, none⟩ n cap olds hol holds ⟨b, off, none⟩ ys.length ycap vs.flatten hfl hcells (by omega) hsm (growslice_fits (by omega) hb)
        let cs := olds.toArray ++ vs.flatten.toArray ++ Builtin.zeroCells zv.cells (grownCap w (n + ys.length) cap e - (n + ys.length))
        have hcsz : cs.size = grownCap w (n + ys.length) cap e * i.size := by
          simp only [cs, Array.size_append, List.size_toArray, hfl, hol, size_zeroCells, hzsz, ← Nat.add_mul]
          congr 1; omega
        let w' := w.drew.alloc (.cells cs e)
        have hold : ∀ k, k < w.heap.size → w'.heap[k]? = w.heap[k]? := fun k hk => by
          show (w.heap.push _)[k]? = _
          rw [Array.getElem?_push, if_neg (by omega)]
        have hnewb : w'.heap[w.heap.size]? = some (.cells cs e (0, 0)) := by
          show (w.heap.push _)[w.heap.size]? = _
          rw [Array.getElem?_push]; simp
        have hget : ∀ (x : Option (Nat × Nat)), (ρ ++ [x])[S.length]? = some x := fun x => by rw [List.getElem?_append_right (by rw [hs.len]; omega), hs.len]; simp
        have hget2 : ∀ (o' b' sz' : Nat) (x : Option (Nat × Nat)), ρ[o']? = some (some (b', sz')) → (ρ ++ [x])[o']? = some (some (b', sz')) := fun o' b' sz' x ho' => by
          rw [List.getElem?_append_left (List.getElem?_eq_some_iff.1 ho').1]; exact ho'
        have t : Tr ρ I w (ρ ++ [some (w.heap.size, i.size)]) I w' := {
          im := fun k hk => ⟨hk, hold k (hs.old k hk)⟩
          ob := fun o' b' sz' ho' => ⟨hget2 o' b' sz' _ ho', fun c' F hc' => ⟨c', by rw [hold b' (hs.lt o' b' sz' ho')]; exact hc', rfl⟩⟩ }
        have hext : Ext S.length ρ I w (ρ ++ [some (w.heap.size, i.size)]) I w' := by
          refine t.ext rfl rfl rfl (by simp [w']) (by simp) (fun k hk _ => hold k hk) (fun _ h => .inl h) fun o' b' sz' h' => ?_
          rw [List.getElem?_append] at h'
          split at h'
          · exact .inl ⟨o', sz', h'⟩
          · simp only [List.getElem?_singleton] at h'
            split at h' <;> simp at h'
            exact .inr (by omega)
        have hof : (olds ++ vs.flatten).length = (n + ys.length) * i.size := by rw [List.length_append, hol, hfl, hmul]
        have hseg : ∀ q, q < n → (cs.toList.drop (q * i.size)).take i.size = (cur.toList.drop (q * i.size)).take i.size := fun q hq => by
          have hle : q * i.size + i.size ≤ n * i.size := by
            have : (q + 1) * i.size ≤ n * i.size := Nat.mul_le_mul_right _ hq
            rw [Nat.add_mul] at this; omega
          apply List.ext_getElem?
          intro m
          rw [seg_at, seg_at]
          split
          · simp only [cs, Array.toList_append]
            rw [List.getElem?_append_left (by show _ < (olds ++ vs.flatten).length; rw [hof, hmul]; omega), List.getElem?_append_left (by show _ < olds.length; rw [hol]; omega)]
            simp only [olds, List.getElem?_take]
            rw [if_pos (by omega)]
          · rfl
        have hseg2 : ∀ q (hq : q < vs.length), (cs.toList.drop ((n + q) * i.size)).take i.size = vs[q] := fun q hq => by
          have hle : q * i.size + i.size ≤ vs.flatten.length := by
            rw [hfl]
            have : (q + 1) * i.size ≤ ys.length * i.size := Nat.mul_le_mul_right _ (by omega)
            rw [Nat.add_mul] at this; omega
          rw [← flat_seg hvs q hq]
          apply List.ext_getElem?
          intro m
          rw [seg_at, seg_at, Nat.add_mul]
          split
          · simp only [cs, Array.toList_append]
            rw [List.getElem?_append_left (by show _ < (olds ++ vs.flatten).length; rw [hof, hmul]; omega), List.getElem?_append_right (by show olds.length ≤ _; rw [hol]; omega)]
            simp only [hol]
            congr 1; omega
          · rfl
        refine wp_value (hexec _ _ (by rw [hxv, hyv]; exact hrun)) (hn _ _ _ _ _ _ hc
          (app_st (ob' := ob') hs hob t (fun hI => by have := hs.old _ hI; omega) (by simp [w']) (fun o' sz' _ _ _ h' => by have := hs.lt o' _ _ h'; omega) (by simp [ob', hobsz]) (by simp only [ob', hty]; exact hnewb) (by simp [w']) ?_
            (fun o' b' sz' _ _ _ h' => hold b' (hs.lt o' b' sz' h')) ?_)
          ?_ hext)
        · simp only [ob', List.length_append, hxl, hcsz]; exact Nat.mul_le_mul_right _ hcap1
        · intro q hq
          by_cases hqn : q < n
          · rw [hseg q hqn]
            have : ob'.xs[q] = ob.xs[q]'(by omega) := by simp only [ob']; rw [List.getElem_append_left (by omega)]
            rw [this]
            exact h10 q (by omega)
          · have hq2 : q - n < vs.length := by simp [ob', hxl] at hq; omega
            have := hseg2 (q - n) hq2
            rw [show n + (q - n) = q by omega] at this
            rw [this]
            have e3 : ob'.xs[q] = ys[q - n]'(by omega) := by simp only [ob']; rw [List.getElem_append_right (by omega)]; congr 1; omega
            rw [e3]
            exact hvr _ hq2 (by omega)
        · exact rd_own.2 ⟨w.heap.size, i.size, _, cs, e, hget _, rfl, hcap1, hcap2, hnewb, by rw [hcsz]; exact Nat.le_refl _⟩
  · exact h.elim

end ops
end Go.V
