/- A part of the proofs about laws of the page tree (see the text that bears the law): a small language of steps, its rules, and what the functions of the program return. -/
import Derived.Test.YtjbihdcdamchnaaVH
import Derived.Laws.AppendOwn
import Derived.Laws.MakeOwn
set_option linter.all false
set_option linter.unusedVariables false
set_option linter.unusedSimpArgs false
namespace Go.V

/-- what may happen to memory; objects below k stay where they are -/
structure Ext (k0 : Nat) (ρ : Rho) (I : Nat → Prop) (w : World) (ρ' : Rho) (I' : Nat → Prop) (w' : World) : Prop where
  os : w'.os = w.os
  tape : w'.tape = w.tape
  output : w'.output = w.output
  size : w.heap.size ≤ w'.heap.size
  kept : min k0 ρ.length ≤ ρ'.length
  block : ∀ k, k < w.heap.size → (∀ o sz : Nat, ρ[o]? ≠ some (some (k, sz))) → w'.heap[k]? = w.heap[k]?
  im : ∀ b, I b → I' b ∧ w'.heap[b]? = w.heap[b]?
  inew : ∀ b, I' b → I b ∨ w.heap.size ≤ b ∨ ∃ o sz : Nat, ρ[o]? = some (some (b, sz))
  rnew : ∀ o b sz : Nat, ρ'[o]? = some (some (b, sz)) → (∃ o' sz' : Nat, ρ[o']? = some (some (b, sz'))) ∨ w.heap.size ≤ b
  fix : ∀ o b sz : Nat, o < k0 → ρ[o]? = some (some (b, sz)) → ρ'[o]? = some (some (b, sz)) ∧
    ∀ (cs : Array Value) (E : TypeId), w.heap[b]? = some (Obj.cells cs E (0, 0)) → ∃ cs' : Array Value, w'.heap[b]? = some (Obj.cells cs' E (0, 0)) ∧ cs'.size = cs.size

theorem Ext.refl (k0 : Nat) (ρ : Rho) (I : Nat → Prop) (w : World) : Ext k0 ρ I w ρ I w :=
  ⟨rfl, rfl, rfl, Nat.le_refl _, Nat.min_le_right _ _, fun _ _ _ => rfl, fun _ h => ⟨h, rfl⟩, fun _ h => .inl h, fun o _ sz h => .inl ⟨o, sz, h⟩, fun _ _ _ _ h => ⟨h, fun cs _ hc => ⟨cs, hc, rfl⟩⟩⟩
theorem Ext.le {k k0 : Nat} {ρ ρ' : Rho} {I I' : Nat → Prop} {w w' : World} (h : Ext k0 ρ I w ρ' I' w') (hk : k ≤ k0) : Ext k ρ I w ρ' I' w' :=
  ⟨h.os, h.tape, h.output, h.size, by have := h.kept; omega, h.block, h.im, h.inew, h.rnew, fun o b sz ho => h.fix o b sz (Nat.lt_of_lt_of_le ho hk)⟩
theorem Ext.trans {k0 : Nat} {ρ ρ' ρ'' : Rho} {I I' I'' : Nat → Prop} {w w' w'' : World} (h : Ext k0 ρ I w ρ' I' w') (k : Ext k0 ρ' I' w' ρ'' I'' w'') : Ext k0 ρ I w ρ'' I'' w'' where
  fix := fun o b sz ho hr => by
    obtain ⟨h1, h2⟩ := h.fix o b sz ho hr
    obtain ⟨k1, k2⟩ := k.fix o b sz ho h1
    refine ⟨k1, fun cs E hc => ?_⟩
    obtain ⟨cs', h3, h4⟩ := h2 cs E hc
    obtain ⟨cs'', k3, k4⟩ := k2 cs' E h3
    exact ⟨cs'', k3, k4.trans h4⟩
  os := k.os.trans h.os
  tape := k.tape.trans h.tape
  output := k.output.trans h.output
  size := Nat.le_trans h.size k.size
  kept := by have := h.kept; have := k.kept; omega
  block := fun b hb hn => by
    rw [k.block b (Nat.lt_of_lt_of_le hb h.size) (fun o sz ho => ?_), h.block b hb hn]
    rcases h.rnew o b sz ho with ⟨o', sz', h1⟩ | h1
    · exact hn o' sz' h1
    · omega
  im := fun b hb => ⟨(k.im b (h.im b hb).1).1, (k.im b (h.im b hb).1).2.trans (h.im b hb).2⟩
  inew := fun b hb => by
    rcases k.inew b hb with h1 | h1 | ⟨o, sz, h1⟩
    · exact h.inew b h1
    · exact .inr (.inl (Nat.le_trans h.size h1))
    · rcases h.rnew o b sz h1 with h2 | h2
      · exact .inr (.inr h2)
      · exact .inr (.inl h2)
  rnew := fun o b sz ho => by
    rcases k.rnew o b sz ho with ⟨o', sz', h1⟩ | h1
    · exact h.rnew o' b sz' h1
    · exact .inr (Nat.le_trans h.size h1)
theorem Grow.ext' {k0 : Nat} {ρ : Rho} {I I' : Nat → Prop} {w w' : World} {S : Store} (h : Grow I w I' w') (hs : St ρ I w S) : Ext k0 ρ I w ρ I' w' :=
  ⟨h.os, h.tape, h.output, h.size, Nat.min_le_right _ _, fun k hk _ => h.block k hk, fun b hb => ⟨h.imono b hb, h.block b (hs.old b hb)⟩, fun b hb => (h.inew b hb).imp id fun h => .inl h.1, fun o _ sz ho => .inl ⟨o, sz, ho⟩,
   fun o b sz _ ho => ⟨ho, fun cs E hc => ⟨cs, by rw [h.block b (hs.lt o b sz ho)]; exact hc, rfl⟩⟩⟩

/-! data that is read anew -/
def mp0 (m : D → D) : D → D
  | .ptr o i j => m (.ptr o i j)
  | .own o n => m (.own o n)
  | .sub o off n cap => m (.sub o off n cap)
  | d => d
def mp1 (m : D → D) : D → D
  | .clo f caps => .clo f (caps.map (mp0 m))
  | d => mp0 m d
def mpS (m : D → D) : D → D
  | .agg cs => .agg (cs.map (mp1 m))
  | d => mp1 m d
def mpD (m : D → D) : D → D
  | .tup ds => .tup (ds.map (mpS m))
  | d => mpS m d
def smp : D → Bool
  | .pv (.agg _) => false
  | .pv (.tup _) => false
  | .pv _ => true
  | .nils => true
  | .ptr _ _ _ => true
  | .own _ _ => true
  | .sub _ _ _ _ => true
  | .any => true
  | _ => false
theorem smp_r1 {ρ : Rho} {I : Nat → Prop} {w : World} {v : Value} {d : D} (hd : smp d = true) (h : R0 ρ I w v d) : R1 ρ I w v d := by
  cases d <;> simp [smp] at hd <;> exact h
theorem smp_rs {ρ : Rho} {I : Nat → Prop} {w : World} {v : Value} {d : D} (hd : smp d = true) (h : R0 ρ I w v d) : RS ρ I w v d := by
  cases d with
  | pv p => cases p <;> simp [smp] at hd <;> exact h
  | _ => simp [smp] at hd <;> exact h
theorem smp_rd {ρ : Rho} {I : Nat → Prop} {w : World} {v : Value} {d : D} (hd : smp d = true) (h : R0 ρ I w v d) : RD ρ I w v d := by
  cases d with
  | pv p => cases p <;> simp [smp] at hd <;> exact h
  | _ => simp [smp] at hd <;> exact h
theorem smp_rdc {ρ : Rho} {I : Nat → Prop} {w : World} {v : Value} {d : D} (hd : smp d = true) (h : R0 ρ I w v d) : RDc ρ I w [v] d := by
  cases d with
  | pv p => exact h
  | _ => simp [smp] at hd <;> exact ⟨v, rfl, h⟩

structure Mp (m : D → D) (ρ : Rho) (I : Nat → Prop) (w : World) (ρ' : Rho) (I' : Nat → Prop) (w' : World) : Prop where
  im : ∀ b, I b → I' b ∧ w'.heap[b]? = w.heap[b]?
  ptr : ∀ v o i j, R0 ρ I w v (.ptr o i j) → R0 ρ' I' w' v (m (.ptr o i j)) ∧ smp (m (.ptr o i j)) = true
  own : ∀ v o n, R0 ρ I w v (.own o n) → R0 ρ' I' w' v (m (.own o n)) ∧ smp (m (.own o n)) = true
  sub : ∀ v o off n cap, R0 ρ I w v (.sub o off n cap) → R0 ρ' I' w' v (m (.sub o off n cap)) ∧ smp (m (.sub o off n cap)) = true

section mp
variable {m : D → D} {ρ ρ' : Rho} {I I' : Nat → Prop} {w w' : World} (t : Mp m ρ I w ρ' I' w')
include t
theorem RC.mp {vs : List Value} {p : PV} (h : RC I w vs p) : RC I' w' vs p := h.mono (fun b hb => (t.im b hb).1) fun b hb => (t.im b hb).2
theorem R0.mp {v : Value} {d : D} (h : R0 ρ I w v d) : R0 ρ' I' w' v (mp0 m d) := by
  cases d with
  | pv p => exact RC.mp t h
  | ptr o i j => exact (t.ptr v o i j h).1
  | own o n => exact (t.own v o n h).1
  | sub o f n c => exact (t.sub v o f n c h).1
  | _ => exact h
theorem R1.mp {v : Value} {d : D} (h : R1 ρ I w v d) : R1 ρ' I' w' v (mp1 m d) := by
  cases d with
  | clo f caps =>
    obtain ⟨vs, h1, h2, h3⟩ := h
    refine ⟨vs, h1, by simpa using h2, fun i hi hi' => ?_⟩
    simp only [List.getElem_map]
    exact R0.mp t (h3 i hi (by simpa using hi'))
  | ptr o i j => exact smp_r1 (t.ptr v o i j h).2 (t.ptr v o i j h).1
  | own o n => exact smp_r1 (t.own v o n h).2 (t.own v o n h).1
  | sub o f n c => exact smp_r1 (t.sub v o f n c h).2 (t.sub v o f n c h).1
  | pv p => exact RC.mp t h
  | _ => exact h
theorem RS.mp {v : Value} {d : D} (h : RS ρ I w v d) : RS ρ' I' w' v (mpS m d) := by
  cases d with
  | agg cs =>
    obtain ⟨vs, h1, h2, h3⟩ := h
    refine ⟨vs, h1, by simpa using h2, fun i hi hi' => ?_⟩
    simp only [List.getElem_map]
    exact R1.mp t (h3 i hi (by simpa using hi'))
  | pv p =>
    cases p with
    | agg ps => obtain ⟨vs, h1, h2⟩ := h; exact ⟨vs, h1, RC.mp t h2⟩
    | _ => exact R1.mp t (d := .pv _) h
  | ptr o i j => exact smp_rs (t.ptr v o i j h).2 (t.ptr v o i j h).1
  | own o n => exact smp_rs (t.own v o n h).2 (t.own v o n h).1
  | sub o f n c => exact smp_rs (t.sub v o f n c h).2 (t.sub v o f n c h).1
  | clo f caps => exact R1.mp t (d := .clo f caps) h
  | _ => exact h
theorem RD.mp {v : Value} {d : D} (h : RD ρ I w v d) : RD ρ' I' w' v (mpD m d) := by
  cases d with
  | tup ds =>
    obtain ⟨vs, h1, h2, h3⟩ := h
    refine ⟨vs, h1, by simpa using h2, fun i hi hi' => ?_⟩
    simp only [List.getElem_map]
    exact RS.mp t (h3 i hi (by simpa using hi'))
  | ptr o i j => exact smp_rd (t.ptr v o i j h).2 (t.ptr v o i j h).1
  | own o n => exact smp_rd (t.own v o n h).2 (t.own v o n h).1
  | sub o f n c => exact smp_rd (t.sub v o f n c h).2 (t.sub v o f n c h).1
  | agg cs => exact RS.mp t (d := .agg cs) h
  | pv p => exact RS.mp t (d := .pv p) h
  | clo f caps => exact RS.mp t (d := .clo f caps) h
  | _ => exact h
theorem RDc.mp {vs : List Value} {d : D} (h : RDc ρ I w vs d) : RDc ρ' I' w' vs (mpS m d) := by
  cases d with
  | agg cs =>
    refine ⟨by simpa using h.1, fun i hi hi' => ?_⟩
    simp only [List.getElem_map]
    exact R1.mp t (h.2 i hi (by simpa using hi'))
  | pv p => exact RC.mp t h
  | ptr o i j =>
    obtain ⟨v, rfl, h2⟩ := h
    exact smp_rdc (t.ptr v o i j h2).2 (t.ptr v o i j h2).1
  | own o n =>
    obtain ⟨v, rfl, h2⟩ := h
    exact smp_rdc (t.own v o n h2).2 (t.own v o n h2).1
  | sub o f n c =>
    obtain ⟨v, rfl, h2⟩ := h
    exact smp_rdc (t.sub v o f n c h2).2 (t.sub v o f n c h2).1
  | clo f caps =>
    obtain ⟨v, h1, h2⟩ := h
    exact ⟨v, h1, R1.mp t h2⟩
  | _ => obtain ⟨v, h1, h2⟩ := h; exact ⟨v, h1, h2⟩
end mp

theorem mp0_id (d : D) : mp0 (fun d => d) d = d := by cases d <;> simp [mp0]
theorem mp1_id (d : D) : mp1 (fun d => d) d = d := by cases d <;> simp [mp1, mp0, show (mp0 fun d => d) = id from funext mp0_id]
theorem mpS_id (d : D) : mpS (fun d => d) d = d := by cases d <;> simp [mpS, mp1, mp0, show (mp0 fun d => d) = id from funext mp0_id, show (mp1 fun d => d) = id from funext mp1_id]
theorem mpD_id (d : D) : mpD (fun d => d) d = d := by
  cases d <;> simp [mpD, mpS, mp1, mp0, show (mp0 fun d => d) = id from funext mp0_id, show (mp1 fun d => d) = id from funext mp1_id, show (mpS fun d => d) = id from funext mpS_id]

structure Tr (ρ : Rho) (I : Nat → Prop) (w : World) (ρ' : Rho) (I' : Nat → Prop) (w' : World) : Prop where
  im : ∀ b, I b → I' b ∧ w'.heap[b]? = w.heap[b]?
  ob : ∀ o b sz : Nat, ρ[o]? = some (some (b, sz)) → ρ'[o]? = some (some (b, sz)) ∧
    ∀ (cs : Array Value) (E : TypeId), w.heap[b]? = some (Obj.cells cs E (0, 0)) → ∃ cs' : Array Value, w'.heap[b]? = some (Obj.cells cs' E (0, 0)) ∧ cs'.size = cs.size

section tr
variable {ρ ρ' : Rho} {I I' : Nat → Prop} {w w' : World}
theorem Tr.mp (t : Tr ρ I w ρ' I' w') : Mp (fun d => d) ρ I w ρ' I' w' where
  im := t.im
  ptr := fun v o i j h => by
    obtain ⟨b, sz, h1, h2⟩ := h
    exact ⟨⟨b, sz, (t.ob o b sz h1).1, h2⟩, rfl⟩
  own := fun v o n h => by
    obtain ⟨b, sz, cap, cs, E, h1, h2, h3, h4, h5, h6⟩ := h
    obtain ⟨h7, h8⟩ := t.ob o b sz h1
    obtain ⟨cs', h9, h10⟩ := h8 cs E h5
    exact ⟨⟨b, sz, cap, cs', E, h7, h2, h3, h4, h9, by omega⟩, rfl⟩
  sub := fun v o f n c h => by
    obtain ⟨b, sz, cs, E, h1, h2, h3, h4, h5, h6⟩ := h
    obtain ⟨h7, h8⟩ := t.ob o b sz h1
    obtain ⟨cs', h9, h10⟩ := h8 cs E h5
    exact ⟨⟨b, sz, cs', E, h7, h2, h3, h4, h9, by omega⟩, rfl⟩
theorem Ext.tr {k : Nat} (h : Ext k ρ I w ρ' I' w') (hk : ρ.length ≤ k) : Tr ρ I w ρ' I' w' := ⟨h.im, fun o b sz ho => h.fix o b sz (by
  rcases Nat.lt_or_ge o ρ.length with h1 | h1
  · omega
  · rw [List.getElem?_eq_none h1] at ho; simp at ho) ho⟩
theorem Tr.ext {k : Nat} (t : Tr ρ I w ρ' I' w') (h1 : w'.os = w.os) (h2 : w'.tape = w.tape) (h3 : w'.output = w.output) (h4 : w.heap.size ≤ w'.heap.size) (hl : ρ.length ≤ ρ'.length)
    (h5 : ∀ k, k < w.heap.size → (∀ o sz : Nat, ρ[o]? ≠ some (some (k, sz))) → w'.heap[k]? = w.heap[k]?) (h6 : ∀ b, I' b → I b ∨ w.heap.size ≤ b ∨ ∃ o sz : Nat, ρ[o]? = some (some (b, sz)))
    (h7 : ∀ o b sz : Nat, ρ'[o]? = some (some (b, sz)) → (∃ o' sz' : Nat, ρ[o']? = some (some (b, sz'))) ∨ w.heap.size ≤ b) : Ext k ρ I w ρ' I' w' :=
  ⟨h1, h2, h3, h4, Nat.le_trans (Nat.min_le_right _ _) hl, h5, t.im, h6, h7, fun o b sz _ ho => t.ob o b sz ho⟩
variable (t : Tr ρ I w ρ' I' w')
include t
theorem RC.tr {vs : List Value} {p : PV} (h : RC I w vs p) : RC I' w' vs p := RC.mp t.mp h
theorem R1.tr {v : Value} {d : D} (h : R1 ρ I w v d) : R1 ρ' I' w' v d := by have := R1.mp t.mp h; rwa [mp1_id] at this
theorem RD.tr {v : Value} {d : D} (h : RD ρ I w v d) : RD ρ' I' w' v d := by have := RD.mp t.mp h; rwa [mpD_id] at this
theorem RDc.tr {vs : List Value} {d : D} (h : RDc ρ I w vs d) : RDc ρ' I' w' vs d := by have := RDc.mp t.mp h; rwa [mpS_id] at this
theorem ER.tr {a : Act} {E : Env} (h : ER ρ I w a E) : ER ρ' I' w' a E := fun i => RD.tr t (h i)
end tr

theorem rd_rdc {ρ : Rho} {I : Nat → Prop} {w : World} {v : Value} {d : D} {cs : List D} (h : RD ρ I w v d) (hcs : cellsD d = some cs) : RDc ρ I w v.cells.toList d := by
  cases d with
  | agg ds => exact rd_cells h hcs |> fun h => by simp [cellsD] at hcs; subst hcs; exact h
  | pv p =>
    cases p with
    | tup ps => simp [cellsD] at hcs
    | _ => exact rd_pv_cells h (by simp)
  | tup ds => simp [cellsD] at hcs
  | undef => simp [cellsD] at hcs
  | any => simp [cellsD] at hcs
  | nils => obtain ⟨a, rfl⟩ := rd_nils.1 h; exact ⟨_, rfl, h⟩
  | ptr o i j => obtain ⟨b, sz, h1, rfl⟩ := rd_ptr.1 h; exact ⟨_, rfl, h⟩
  | own o n => obtain ⟨b, sz, cap, cs', E', h1, rfl, h2⟩ := rd_own.1 h; exact ⟨_, rfl, h⟩
  | sub o f n c => obtain ⟨b, sz, cs', E', h1, rfl, h2⟩ := rd_sub.1 h; exact ⟨_, rfl, h⟩
  | clo f caps =>
    have h' : R1 ρ I w v (.clo f caps) := h
    obtain ⟨vs, rfl, h1⟩ := id h'
    exact ⟨_, rfl, h'⟩

/-! a new object -/
section push
variable {ρ : Rho} {I : Nat → Prop} {w w' : World} {S : Store} {ob : Ob} {cs : Array Value}
theorem push_tr (hs : St ρ I w S) (hh : w'.heap = w.heap.push (.cells cs ob.ty)) : Tr ρ I w (ρ ++ [some (w.heap.size, ob.sz)]) I w' where
  im := fun b hb => ⟨hb, by rw [hh, Array.getElem?_push, if_neg (by have := hs.old b hb; omega)]⟩
  ob := fun o b sz ho => by
    have hlt : o < ρ.length := by
      rcases Nat.lt_or_ge o ρ.length with h | h
      · exact h
      · rw [List.getElem?_eq_none h] at ho; simp at ho
    refine ⟨by rw [List.getElem?_append_left hlt]; exact ho, fun cs' E hc => ⟨cs', ?_, rfl⟩⟩
    rw [hh, Array.getElem?_push, if_neg (by have := hs.lt o b sz ho; omega)]
    exact hc
theorem push_ext {k0 : Nat} (hs : St ρ I w S) (hh : w'.heap = w.heap.push (.cells cs ob.ty)) (h1 : w'.os = w.os) (h2 : w'.tape = w.tape) (h3 : w'.output = w.output) :
    Ext k0 ρ I w (ρ ++ [some (w.heap.size, ob.sz)]) I w' := by
  refine (push_tr (ob := ob) hs hh).ext h1 h2 h3 (by rw [hh]; simp) (by simp) (fun k hk _ => by rw [hh, Array.getElem?_push, if_neg (by omega)]) (fun b h => .inl h) fun o b sz ho => ?_
  rw [List.getElem?_append] at ho
  split at ho
  · exact .inl ⟨o, sz, ho⟩
  · simp only [List.getElem?_singleton] at ho
    split at ho <;> simp at ho
    exact .inr (by omega)
theorem push_st (hs : St ρ I w S) (hh : w'.heap = w.heap.push (.cells cs ob.ty)) (hl : ob.xs.length * ob.sz ≤ cs.size)
    (hr : ∀ i (h : i < ob.xs.length), RDc ρ I w ((cs.toList.drop (i * ob.sz)).take ob.sz) ob.xs[i]) : St (ρ ++ [some (w.heap.size, ob.sz)]) I w' (S ++ [some ob]) where
  len := by simp [hs.len]
  old := fun b hb => by rw [hh]; simp; have := hs.old b hb; omega
  obs := fun o ob' ho => by
    have t := push_tr (ob := ob) hs hh
    rw [List.getElem?_append] at ho
    split at ho
    · rename_i hlt
      obtain ⟨b, sz, h1, h2, cs', h3, h4, h5⟩ := hs.obs o ob' ho
      refine ⟨b, sz, (t.ob o b sz h1).1, h2, cs', ?_, h4, fun i hi => (h5 i hi).tr t⟩
      rw [hh, Array.getElem?_push, if_neg (by have := hs.lt o b sz h1; omega)]
      exact h3
    · rename_i hge
      simp only [List.getElem?_singleton] at ho
      split at ho <;> simp at ho
      subst ho
      rename_i h0
      refine ⟨w.heap.size, ob.sz, ?_, rfl, cs, ?_, hl, fun i hi => (hr i hi).tr t⟩
      · rw [List.getElem?_append_right (by rw [hs.len]; omega), hs.len, h0]; rfl
      · rw [hh, Array.getElem?_push, if_pos rfl]
  lt := fun o b sz ho => by
    rw [List.getElem?_append] at ho
    split at ho
    · rw [hh]; simp; have := hs.lt o b sz ho; omega
    · simp only [List.getElem?_singleton] at ho
      split at ho <;> simp at ho
      rw [hh]; simp; omega
  apart := fun o b sz ob' hS ho => by
    rw [List.getElem?_append] at ho hS
    rw [hs.len] at ho
    split at ho
    · rename_i h
      rw [if_pos h] at hS
      exact hs.apart o b sz ob' hS ho
    · simp only [List.getElem?_singleton] at ho
      split at ho <;> simp at ho
      obtain ⟨rfl, rfl⟩ := ho
      exact fun hb => by have := hs.old _ hb; omega
  inj := fun o o' b sz sz' ob1 ob2 hS hS' ho ho' => by
    rw [List.getElem?_append] at ho ho' hS hS'
    rw [hs.len] at ho ho'
    split at ho <;> split at ho'
    · rename_i h h'
      rw [if_pos h] at hS
      rw [if_pos h'] at hS'
      exact hs.inj o o' b sz sz' ob1 ob2 hS hS' ho ho'
    · simp only [List.getElem?_singleton] at ho'
      split at ho' <;> simp at ho'
      have := hs.lt o b sz ho
      omega
    · simp only [List.getElem?_singleton] at ho
      split at ho <;> simp at ho
      have := hs.lt o' b sz' ho'
      omega
    · simp only [List.getElem?_singleton] at ho ho'
      split at ho <;> split at ho' <;> simp at ho ho'
      omega
theorem push_ptr (hs : St ρ I w S) : (ρ ++ [some (w.heap.size, ob.sz)])[S.length]? = some (some (w.heap.size, ob.sz)) := by
  rw [List.getElem?_append_right (by rw [hs.len]; omega), hs.len]; simp
end push

/-- ONE OPERATION THAT MAY WRITE, slots of its own alone -/
def OpX (P : Program) (o : Oper) (E : Env) (S : Store) (c : D → Store → Prop) : Prop :=
  ∀ (ρ : Rho) (I : Nat → Prop) (w : World) (a : Act) (next : Act → World → Prop) (Q : Exit → Act → World → Prop), St ρ I w S →
    (∀ t ∈ Oper.slots o, RD ρ I w (a.tmps.getD t Go.undef) (E t)) →
    (∀ u d ρ' I' w' S', c d S' → St ρ' I' w' S' → RD ρ' I' w' u d → Ext S.length ρ I w ρ' I' w' → next (a.put o.dst u) w') → o.wp P a w next Q

theorem OpX.of_free {P : Program} {o : Oper} {E : Env} {S : Store} {c : D → Store → Prop} (h : ∃ d, OpOK P S o E d ∧ c d S) : OpX P o E S c := by
  obtain ⟨d, h1, h2⟩ := h
  intro ρ I w a next Q hs he hn
  exact h1 ρ I w a next Q hs.toStR he fun u I' w' hg hu => hn u d ρ I' w' S h2 (hs.grow hg) hu (hg.ext' hs)

theorem wp_skip' {P : Program} {o : Oper} {a : Act} {w w' : World} {next : Act → World → Prop} {Q : Exit → Act → World → Prop}
    (h : (execOp a.eval o).run P w = .ok .skip w') (hn : next (a.put o.dst Go.undef) w') : o.wp P a w next Q := by
  unfold Oper.wp; rw [h]; exact hn

theorem dOf1_rdc {ρ : Rho} {I : Nat → Prop} {w : World} {v : Value} {d : D} (h : dOf1 v = some d) : RDc ρ I w [v] d := by
  unfold dOf1 at h
  split at h <;> simp at h <;> subst h
  · exact .int _ _
  · exact .bool _
  · exact ⟨_, rfl, _, rfl⟩
  · exact .nilp

/-! segments -/
theorem seg_get {L vs : List Value} {p : Nat} (hp : p + vs.length ≤ L.length) (n : Nat) :
    (L.take p ++ vs ++ L.drop (p + vs.length))[n]? = if n < p then L[n]? else if n < p + vs.length then vs[n - p]? else L[n]? := by
  rw [List.getElem?_append, List.getElem?_append]
  have hl : (L.take p).length = p := by simp; omega
  simp only [List.length_append, hl]
  by_cases h1 : n < p
  · simp [h1, show n < p + vs.length by omega]
  · by_cases h2 : n < p + vs.length
    · simp [h1, h2]
    · simp [h1, h2]
      congr 1; omega
theorem seg_at (L : List Value) (o n m : Nat) : ((L.drop o).take n)[m]? = if m < n then L[o + m]? else none := by
  rw [List.getElem?_take]
  split <;> simp
theorem seg_other {L vs : List Value} {p i q sz : Nat} (h1 : i * sz ≤ p) (h2 : p + vs.length ≤ (i + 1) * sz) (h3 : p + vs.length ≤ L.length) (hne : q ≠ i) :
    ((L.take p ++ vs ++ L.drop (p + vs.length)).drop (q * sz)).take sz = (L.drop (q * sz)).take sz := by
  apply List.ext_getElem?
  intro m
  rw [seg_at, seg_at]
  split
  · rename_i hm
    rw [seg_get h3]
    have : q * sz + m < p ∨ p + vs.length ≤ q * sz + m := by
      rcases Nat.lt_or_gt_of_ne hne with h | h
      · left
        have : (q + 1) * sz ≤ i * sz := Nat.mul_le_mul_right _ h
        rw [Nat.add_mul] at this
        omega
      · right
        have : (i + 1) * sz ≤ q * sz := Nat.mul_le_mul_right _ h
        omega
    rcases this with h | h
    · simp [h]
    · simp [show ¬ q * sz + m < p by omega, show ¬ q * sz + m < p + vs.length by omega]
  · rfl
theorem seg_same {L vs : List Value} {p i j sz : Nat} (h1 : p = i * sz + j) (h2 : j + vs.length ≤ sz) (h3 : i * sz + sz ≤ L.length) :
    ((L.take p ++ vs ++ L.drop (p + vs.length)).drop (i * sz)).take sz = ((L.drop (i * sz)).take sz).take j ++ vs ++ ((L.drop (i * sz)).take sz).drop (j + vs.length) := by
  apply List.ext_getElem?
  intro m
  have hl : ((L.drop (i * sz)).take sz).length = sz := by simp; omega
  rw [seg_at, seg_get (by omega), seg_get (by rw [hl]; exact h2), seg_at]
  subst h1
  by_cases hm : m < sz
  · simp only [hm, if_true]
    by_cases hj : m < j
    · simp [hj, show i * sz + m < i * sz + j by omega]
    · by_cases hj2 : m < j + vs.length
      · simp [hj, hj2, show ¬ i * sz + m < i * sz + j by omega, show i * sz + m < i * sz + j + vs.length by omega]
        congr 1; omega
      · simp [hj, hj2, show ¬ i * sz + m < i * sz + j by omega, show ¬ i * sz + m < i * sz + j + vs.length by omega]
  · simp [hm]
    omega

/-- new contents of an own block -/
theorem set_tr {ρ : Rho} {I : Nat → Prop} {w w' : World} {b : Nat} {cs cs' : Array Value} {E : TypeId} (hb : w.heap[b]? = some (.cells cs E (0, 0))) (hI : ¬ I b)
    (hb' : w'.heap[b]? = some (.cells cs' E (0, 0))) (hsz : cs'.size = cs.size) (hoth : ∀ k, k ≠ b → w'.heap[k]? = w.heap[k]?) : Tr ρ I w ρ I w' where
  im := fun b' hI' => ⟨hI', hoth b' (fun e => hI (e ▸ hI'))⟩
  ob := fun _ b' _ ho' => ⟨ho', fun c F hc => by
    by_cases hbb : b' = b
    · subst hbb
      rw [hb] at hc
      simp at hc
      obtain ⟨rfl, rfl⟩ := hc
      exact ⟨cs', hb', hsz⟩
    · exact ⟨c, by rw [hoth b' hbb]; exact hc, rfl⟩⟩
theorem set_ext {k0 : Nat} {ρ : Rho} {I : Nat → Prop} {w w' : World} {o b sz : Nat} (ho : ρ[o]? = some (some (b, sz))) (ht : Tr ρ I w ρ I w')
    (h1 : w'.os = w.os) (h2 : w'.tape = w.tape) (h3 : w'.output = w.output) (h4 : w.heap.size ≤ w'.heap.size) (hoth : ∀ k, k ≠ b → w'.heap[k]? = w.heap[k]?) : Ext k0 ρ I w ρ I w' :=
  ht.ext h1 h2 h3 h4 (Nat.le_refl _) (fun k _ hn => hoth k (fun e => hn o sz (e ▸ ho))) (fun _ h => .inl h) fun o' _ sz' h => .inl ⟨o', sz', h⟩
theorem set_st {ρ : Rho} {I : Nat → Prop} {w w' : World} {S : Store} {o b sz : Nat} {cs cs' : Array Value} {ob ob' : Ob} (hs : St ρ I w S) (ho : ρ[o]? = some (some (b, sz)))
    (hSo : S[o]? = some (some ob)) (hty : ob'.ty = ob.ty) (hsz' : ob'.sz = ob.sz) (hsz0 : sz = ob.sz)
    (hb : w.heap[b]? = some (.cells cs ob.ty (0, 0))) (hb' : w'.heap[b]? = some (.cells cs' ob.ty (0, 0))) (hsz : cs'.size = cs.size) (hoth : ∀ k, k ≠ b → w'.heap[k]? = w.heap[k]?) (hws : w.heap.size ≤ w'.heap.size)
    (hl : ob'.xs.length * sz ≤ cs'.size) (hr : ∀ i (h : i < ob'.xs.length), RDc ρ I w' ((cs'.toList.drop (i * sz)).take sz) ob'.xs[i]) : St ρ I w' (S.set o (some ob')) where
  len := by simp [hs.len]
  old := fun k hk => Nat.lt_of_lt_of_le (hs.old k hk) hws
  obs := fun o2 ob2 h2 => by
    have t := set_tr (ρ := ρ) hb (hs.apart o b sz ob hSo ho) hb' hsz hoth
    rw [List.getElem?_set] at h2
    split at h2
    · rename_i e
      subst e
      split at h2 <;> simp at h2
      subst h2
      exact ⟨b, sz, ho, by rw [hsz0, hsz'], cs', by rw [hty]; exact hb', hl, hr⟩
    · rename_i hne
      obtain ⟨b2, sz2, h3, h4, cs2, h5, h6, h7⟩ := hs.obs o2 ob2 h2
      have hbb : b2 ≠ b := fun e => hne (hs.inj o o2 b sz sz2 ob ob2 hSo h2 ho (e ▸ h3))
      exact ⟨b2, sz2, h3, h4, cs2, by rw [hoth b2 hbb]; exact h5, h6, fun i hi => (h7 i hi).tr t⟩
  lt := fun o2 b2 sz2 h2 => Nat.lt_of_lt_of_le (hs.lt o2 b2 sz2 h2) hws
  apart := fun o2 b2 sz2 ob2 hS h2 => by
    rw [List.getElem?_set] at hS
    split at hS
    · rename_i e; subst e; exact hs.apart o b2 sz2 ob hSo h2
    · exact hs.apart o2 b2 sz2 ob2 hS h2
  inj := fun o1 o2 b2 sz1 sz2 ob1 ob2 hS1 hS2 h1 h2 => by
    have key : ∀ q (obq : Ob), (S.set o (some ob'))[q]? = some (some obq) → ∃ obq', S[q]? = some (some obq') := fun q obq hq => by
      rw [List.getElem?_set] at hq
      split at hq
      · rename_i e; subst e; exact ⟨ob, hSo⟩
      · exact ⟨obq, hq⟩
    obtain ⟨x1, hx1⟩ := key o1 ob1 hS1
    obtain ⟨x2, hx2⟩ := key o2 ob2 hS2
    exact hs.inj o1 o2 b2 sz1 sz2 x1 x2 hx1 hx2 h1 h2

section ops
variable {P : Program} {S : Store} {o : Oper} {E : Env} {c : D → Store → Prop}

theorem okS_box {T : TypeId} {x : Operand} {x' : Opd} {sz : Nat} {cs : List D} (hop : o.op = .box T x) (hx : dOpd x = some x') (hcs : cellsD (ev E x') = some cs) (hl : cs.length = sz)
    (h : c (.ptr S.length 0 0) (S ++ [some ⟨T, sz, [ev E x']⟩])) : OpX P o E S c := by
  intro ρ I w a next Q hs he hn
  have g := dOpd_sound hx fun t ht => he t (slots_mem (by simp [hop, Op.operands, ht]))
  have g1 := rd_cells g hcs
  have g2 := rd_rdc g hcs
  have hsz : (a.eval x).cells.size = sz := by have := g1.1; simp at this; omega
  let ob : Ob := ⟨T, sz, [ev E x']⟩
  have hh : (w.alloc (.cells (a.eval x).cells T)).heap = w.heap.push (.cells (a.eval x).cells ob.ty) := rfl
  refine wp_value (u := .pointer (some ⟨w.heap.size, 0, none⟩)) (w' := w.alloc (.cells (a.eval x).cells T)) ?_ ?_
  · simp [execOp, hop, Instr.box, newVar, newRow]
  · refine hn _ _ _ _ _ _ h (push_st (ob := ob) hs hh (by simp [ob, hsz]) ?_) ?_ (push_ext (ob := ob) hs hh rfl rfl rfl)
    · intro i hi
      have : i = 0 := by simpa [ob] using hi
      subst this
      simp only [ob, Nat.zero_mul, List.drop_zero]
      rw [List.take_of_length_le (by simp [hsz])]
      exact g2
    · exact rd_ptr.2 ⟨w.heap.size, sz, push_ptr (ob := ob) hs, by simp⟩

theorem okS_alloc {T : TypeId} {zero : List D} {agg : Bool} {sz : Nat} {d : D} (hop : o.op = .alloc T) (hz : zeroT P T = some zero) (hl : zero.length = sz)
    (hd : d = if agg then .agg zero else zero.headD .any) (h1 : agg = false → zero.length = 1)
    (h : c (.ptr S.length 0 0) (S ++ [some ⟨T, sz, [d]⟩])) : OpX P o E S c := by
  intro ρ I w a next Q hs he hn
  obtain ⟨zv, hz1, hz2⟩ := run_zero hz
  have g1 := dOfs_sound (ρ := ρ) (I := I) (w := w) hz1
  have hsz : zv.cells.size = sz := by have := g1.1; simp at this; omega
  let ob : Ob := ⟨T, sz, [d]⟩
  have hh : (w.alloc (.cells zv.cells T)).heap = w.heap.push (.cells zv.cells ob.ty) := rfl
  refine wp_value (u := .pointer (some ⟨w.heap.size, 0, none⟩)) (w' := w.alloc (.cells zv.cells T)) ?_ ?_
  · simp [execOp, hop, Instr.alloc, hz2, newVar, newRow]
  · refine hn _ _ _ _ _ _ h (push_st (ob := ob) hs hh (by simp [ob, hsz]) ?_) ?_ (push_ext (ob := ob) hs hh rfl rfl rfl)
    · intro i hi
      have : i = 0 := by simpa [ob] using hi
      subst this
      simp only [ob, Nat.zero_mul, List.drop_zero]
      rw [List.take_of_length_le (by simp [hsz])]
      cases agg with
      | true => simp only [if_true] at hd; subst hd; exact g1
      | false =>
        simp only [Bool.false_eq_true, if_false] at hd
        have := h1 rfl
        match zero, this with
        | [z], _ =>
          simp at hd
          subst hd
          match hv : zv.cells.toList, g1.1 with
          | [v], _ =>
            rw [hv] at hz1
            simp only [dOfs] at hz1
            split at hz1 <;> simp at hz1
            rename_i d' ds' h3 h4
            obtain ⟨rfl, rfl⟩ := hz1
            exact dOf1_rdc h3
    · exact rd_ptr.2 ⟨w.heap.size, sz, push_ptr (ob := ob) hs, by simp⟩

end ops
end Go.V
