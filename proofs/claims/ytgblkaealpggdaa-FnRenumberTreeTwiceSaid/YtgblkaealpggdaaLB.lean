/- A part of the proofs about laws of the page tree (see the text that bears the law): a small language of steps, its rules, and what the functions of the program return. -/
import Derived.Test.YtgblkaealpggdaaLA
import Derived.Laws.AppendOwn
import Derived.Laws.MakeOwn
import Derived.Lib.AppendZerosOnto
import Derived.Lib.SliceRun
import Derived.Laws.Externs
set_option linter.all false
set_option linter.unusedVariables false
set_option linter.unusedSimpArgs false
namespace Go.V

structure Ext (k0 : Nat) (ρ : Rho) (I : Nat → Prop) (w : World) (ρ' : Rho) (I' : Nat → Prop) (w' : World) : Prop where
  os : w'.os = w.os
  tape : w'.tape = w.tape
  output : w'.output = w.output
  size : w.heap.size ≤ w'.heap.size
  kept : min k0 ρ.length ≤ ρ'.length
  block : ∀ k, k < w.heap.size → (∀ o sz : Nat, ρ[o]? ≠ some (some (k, sz))) → w'.heap[k]? = w.heap[k]?
  im : ∀ b, I b → I' b ∧ w'.heap[b]? = w.heap[b]?
  inew : ∀ b, I' b → I b ∨ w.heap.size ≤ b ∨ ∃ o sz : Nat, ρ[o]? = some (some (b, sz))
  rnew : ∀ o b sz : Nat, ρ'[o]? = some (some (b, sz)) → (∃ o' sz' : Nat, ρ[o']? = some (some (b, sz'))) ∨ w.heap.size ≤ b
  fix : ∀ o b sz : Nat, o < k0 → ρ[o]? = some (some (b, sz)) → ρ'[o]? = some (some (b, sz)) ∧
    ∀ (cs : Array Value) (E : TypeId), w.heap[b]? = some (Obj.cells cs E (0, 0)) → ∃ cs' : Array Value, w'.heap[b]? = some (Obj.cells cs' E (0, 0)) ∧ cs'.size = cs.size

theorem Ext.refl (k0 : Nat) (ρ : Rho) (I : Nat → Prop) (w : World) : Ext k0 ρ I w ρ I w :=
  ⟨rfl, rfl, rfl, Nat.le_refl _, Nat.min_le_right _ _, fun _ _ _ => rfl, fun _ h => ⟨h, rfl⟩, fun _ h => .inl h, fun o _ sz h => .inl ⟨o, sz, h⟩, fun _ _ _ _ h => ⟨h, fun cs _ hc => ⟨cs, hc, rfl⟩⟩⟩
theorem Ext.le {k k0 : Nat} {ρ ρ' : Rho} {I I' : Nat → Prop} {w w' : World} (h : Ext k0 ρ I w ρ' I' w') (hk : k ≤ k0) : Ext k ρ I w ρ' I' w' :=
  ⟨h.os, h.tape, h.output, h.size, by have := h.kept; omega, h.block, h.im, h.inew, h.rnew, fun o b sz ho => h.fix o b sz (Nat.lt_of_lt_of_le ho hk)⟩
theorem Ext.trans {k0 : Nat} {ρ ρ' ρ'' : Rho} {I I' I'' : Nat → Prop} {w w' w'' : World} (h : Ext k0 ρ I w ρ' I' w') (k : Ext k0 ρ' I' w' ρ'' I'' w'') : Ext k0 ρ I w ρ'' I'' w'' where
  fix := fun o b sz ho hr => by
    obtain ⟨h1, h2⟩ := h.fix o b sz ho hr
    obtain ⟨k1, k2⟩ := k.fix o b sz ho h1
    refine ⟨k1, fun cs E hc => ?_⟩
    obtain ⟨cs', h3, h4⟩ := h2 cs E hc
    obtain ⟨cs'', k3, k4⟩ := k2 cs' E h3
    exact ⟨cs'', k3, k4.trans h4⟩
  os := k.os.trans h.os
  tape := k.tape.trans h.tape
  output := k.output.trans h.output
  size := Nat.le_trans h.size k.size
  kept := by have := h.kept; have := k.kept; omega
  block := fun b hb hn => by
    rw [k.block b (Nat.lt_of_lt_of_le hb h.size) (fun o sz ho => ?_), h.block b hb hn]
    rcases h.rnew o b sz ho with ⟨o', sz', h1⟩ | h1
    · exact hn o' sz' h1
    · omega
  im := fun b hb => ⟨(k.im b (h.im b hb).1).1, (k.im b (h.im b hb).1).2.trans (h.im b hb).2⟩
  inew := fun b hb => by
    rcases k.inew b hb with h1 | h1 | ⟨o, sz, h1⟩
    · exact h.inew b h1
    · exact .inr (.inl (Nat.le_trans h.size h1))
    · rcases h.rnew o b sz h1 with h2 | h2
      · exact .inr (.inr h2)
      · exact .inr (.inl h2)
  rnew := fun o b sz ho => by
    rcases k.rnew o b sz ho with ⟨o', sz', h1⟩ | h1
    · exact h.rnew o' b sz' h1
    · exact .inr (Nat.le_trans h.size h1)
theorem Grow.ext' {k0 : Nat} {ρ : Rho} {I I' : Nat → Prop} {w w' : World} {S : Store} (h : Grow I w I' w') (hs : St ρ I w S) : Ext k0 ρ I w ρ I' w' :=
  ⟨h.os, h.tape, h.output, h.size, Nat.min_le_right _ _, fun k hk _ => h.block k hk, fun b hb => ⟨h.imono b hb, h.block b (hs.old b hb)⟩, fun b hb => (h.inew b hb).imp id fun h => .inl h.1, fun o _ sz ho => .inl ⟨o, sz, ho⟩,
   fun o b sz _ ho => ⟨ho, fun cs E hc => ⟨cs, by rw [h.block b (hs.lt o b sz ho)]; exact hc, rfl⟩⟩⟩

/-! data that is read anew -/
def mp0 (m : D → D) : D → D
  | .ptr o i j => m (.ptr o i j)
  | .own o n => m (.own o n)
  | .sub o off n cap => m (.sub o off n cap)
  | d => d
def mp1 (m : D → D) : D → D
  | .clo f caps => .clo f (caps.map (mp0 m))
  | d => mp0 m d
def mpS (m : D → D) : D → D
  | .agg cs => .agg (cs.map (mp1 m))
  | d => mp1 m d
def mpD (m : D → D) : D → D
  | .tup ds => .tup (ds.map (mpS m))
  | d => mpS m d
def smp : D → Bool
  | .pv (.agg _) => false
  | .pv (.tup _) => false
  | .pv _ => true
  | .nils => true
  | .ptr _ _ _ => true
  | .own _ _ => true
  | .sub _ _ _ _ => true
  | .any => true
  | _ => false
theorem smp_r1 {ρ : Rho} {I : Nat → Prop} {w : World} {v : Value} {d : D} (hd : smp d = true) (h : R0 ρ I w v d) : R1 ρ I w v d := by
  cases d <;> simp [smp] at hd <;> exact h
theorem smp_rs {ρ : Rho} {I : Nat → Prop} {w : World} {v : Value} {d : D} (hd : smp d = true) (h : R0 ρ I w v d) : RS ρ I w v d := by
  cases d with
  | pv p => cases p <;> simp [smp] at hd <;> exact h
  | _ => simp [smp] at hd <;> exact h
theorem smp_rd {ρ : Rho} {I : Nat → Prop} {w : World} {v : Value} {d : D} (hd : smp d = true) (h : R0 ρ I w v d) : RD ρ I w v d := by
  cases d with
  | pv p => cases p <;> simp [smp] at hd <;> exact h
  | _ => simp [smp] at hd <;> exact h
theorem smp_rdc {ρ : Rho} {I : Nat → Prop} {w : World} {v : Value} {d : D} (hd : smp d = true) (h : R0 ρ I w v d) : RDc ρ I w [v] d := by
  cases d with
  | pv p => exact h
  | _ => simp [smp] at hd <;> exact ⟨v, rfl, h⟩

structure Mp (m : D → D) (ρ : Rho) (I : Nat → Prop) (w : World) (ρ' : Rho) (I' : Nat → Prop) (w' : World) : Prop where
  im : ∀ b, I b → I' b ∧ w'.heap[b]? = w.heap[b]?
  ptr : ∀ v o i j, R0 ρ I w v (.ptr o i j) → R0 ρ' I' w' v (m (.ptr o i j)) ∧ smp (m (.ptr o i j)) = true
  own : ∀ v o n, R0 ρ I w v (.own o n) → R0 ρ' I' w' v (m (.own o n)) ∧ smp (m (.own o n)) = true
  sub : ∀ v o off n cap, R0 ρ I w v (.sub o off n cap) → R0 ρ' I' w' v (m (.sub o off n cap)) ∧ smp (m (.sub o off n cap)) = true

section mp
variable {m : D → D} {ρ ρ' : Rho} {I I' : Nat → Prop} {w w' : World} (t : Mp m ρ I w ρ' I' w')
include t
theorem RC.mp {vs : List Value} {p : PV} (h : RC I w vs p) : RC I' w' vs p := h.mono (fun b hb => (t.im b hb).1) fun b hb => (t.im b hb).2
theorem R0.mp {v : Value} {d : D} (h : R0 ρ I w v d) : R0 ρ' I' w' v (mp0 m d) := by
  cases d with
  | pv p => exact RC.mp t h
  | ptr o i j => exact (t.ptr v o i j h).1
  | own o n => exact (t.own v o n h).1
  | sub o f n c => exact (t.sub v o f n c h).1
  | _ => exact h
theorem R1.mp {v : Value} {d : D} (h : R1 ρ I w v d) : R1 ρ' I' w' v (mp1 m d) := by
  cases d with
  | clo f caps =>
    obtain ⟨vs, h1, h2, h3⟩ := h
    refine ⟨vs, h1, by simpa using h2, fun i hi hi' => ?_⟩
    simp only [List.getElem_map]
    exact R0.mp t (h3 i hi (by simpa using hi'))
  | ptr o i j => exact smp_r1 (t.ptr v o i j h).2 (t.ptr v o i j h).1
  | own o n => exact smp_r1 (t.own v o n h).2 (t.own v o n h).1
  | sub o f n c => exact smp_r1 (t.sub v o f n c h).2 (t.sub v o f n c h).1
  | pv p => exact RC.mp t h
  | _ => exact h
theorem RS.mp {v : Value} {d : D} (h : RS ρ I w v d) : RS ρ' I' w' v (mpS m d) := by
  cases d with
  | agg cs =>
    obtain ⟨vs, h1, h2, h3⟩ := h
    refine ⟨vs, h1, by simpa using h2, fun i hi hi' => ?_⟩
    simp only [List.getElem_map]
    exact R1.mp t (h3 i hi (by simpa using hi'))
  | pv p =>
    cases p with
    | agg ps => obtain ⟨vs, h1, h2⟩ := h; exact ⟨vs, h1, RC.mp t h2⟩
    | _ => exact R1.mp t (d := .pv _) h
  | ptr o i j => exact smp_rs (t.ptr v o i j h).2 (t.ptr v o i j h).1
  | own o n => exact smp_rs (t.own v o n h).2 (t.own v o n h).1
  | sub o f n c => exact smp_rs (t.sub v o f n c h).2 (t.sub v o f n c h).1
  | clo f caps => exact R1.mp t (d := .clo f caps) h
  | _ => exact h
theorem RD.mp {v : Value} {d : D} (h : RD ρ I w v d) : RD ρ' I' w' v (mpD m d) := by
  cases d with
  | tup ds =>
    obtain ⟨vs, h1, h2, h3⟩ := h
    refine ⟨vs, h1, by simpa using h2, fun i hi hi' => ?_⟩
    simp only [List.getElem_map]
    exact RS.mp t (h3 i hi (by simpa using hi'))
  | ptr o i j => exact smp_rd (t.ptr v o i j h).2 (t.ptr v o i j h).1
  | own o n => exact smp_rd (t.own v o n h).2 (t.own v o n h).1
  | sub o f n c => exact smp_rd (t.sub v o f n c h).2 (t.sub v o f n c h).1
  | agg cs => exact RS.mp t (d := .agg cs) h
  | pv p => exact RS.mp t (d := .pv p) h
  | clo f caps => exact RS.mp t (d := .clo f caps) h
  | _ => exact h
theorem RDc.mp {vs : List Value} {d : D} (h : RDc ρ I w vs d) : RDc ρ' I' w' vs (mpS m d) := by
  cases d with
  | agg cs =>
    refine ⟨by simpa using h.1, fun i hi hi' => ?_⟩
    simp only [List.getElem_map]
    exact R1.mp t (h.2 i hi (by simpa using hi'))
  | pv p => exact RC.mp t h
  | ptr o i j =>
    obtain ⟨v, rfl, h2⟩ := h
    exact smp_rdc (t.ptr v o i j h2).2 (t.ptr v o i j h2).1
  | own o n =>
    obtain ⟨v, rfl, h2⟩ := h
    exact smp_rdc (t.own v o n h2).2 (t.own v o n h2).1
  | sub o f n c =>
    obtain ⟨v, rfl, h2⟩ := h
    exact smp_rdc (t.sub v o f n c h2).2 (t.sub v o f n c h2).1
  | clo f caps =>
    obtain ⟨v, h1, h2⟩ := h
    exact ⟨v, h1, R1.mp t h2⟩
  | _ => obtain ⟨v, h1, h2⟩ := h; exact ⟨v, h1, h2⟩
end mp

theorem mp0_id (d : D) : mp0 (fun d => d) d = d := by cases d <;> simp [mp0]
theorem mp1_id (d : D) : mp1 (fun d => d) d = d := by cases d <;> simp [mp1, mp0, show (mp0 fun d => d) = id from funext mp0_id]
theorem mpS_id (d : D) : mpS (fun d => d) d = d := by cases d <;> simp [mpS, mp1, mp0, show (mp0 fun d => d) = id from funext mp0_id, show (mp1 fun d => d) = id from funext mp1_id]
theorem mpD_id (d : D) : mpD (fun d => d) d = d := by
  cases d <;> simp [mpD, mpS, mp1, mp0, show (mp0 fun d => d) = id from funext mp0_id, show (mp1 fun d => d) = id from funext mp1_id, show (mpS fun d => d) = id from funext mpS_id]

structure Tr (ρ : Rho) (I : Nat → Prop) (w : World) (ρ' : Rho) (I' : Nat → Prop) (w' : World) : Prop where
  im : ∀ b, I b → I' b ∧ w'.heap[b]? = w.heap[b]?
  ob : ∀ o b sz : Nat, ρ[o]? = some (some (b, sz)) → ρ'[o]? = some (some (b, sz)) ∧
    ∀ (cs : Array Value) (E : TypeId), w.heap[b]? = some (Obj.cells cs E (0, 0)) → ∃ cs' : Array Value, w'.heap[b]? = some (Obj.cells cs' E (0, 0)) ∧ cs'.size = cs.size

section tr
variable {ρ ρ' : Rho} {I I' : Nat → Prop} {w w' : World}
theorem Tr.mp (t : Tr ρ I w ρ' I' w') : Mp (fun d => d) ρ I w ρ' I' w' where
  im := t.im
  ptr := fun v o i j h => by
    obtain ⟨b, sz, h1, h2⟩ := h
    exact ⟨⟨b, sz, (t.ob o b sz h1).1, h2⟩, rfl⟩
  own := fun v o n h => by
    obtain ⟨b, sz, cap, cs, E, h1, h2, h3, h4, h5, h6⟩ := h
    obtain ⟨h7, h8⟩ := t.ob o b sz h1
    obtain ⟨cs', h9, h10⟩ := h8 cs E h5
    exact ⟨⟨b, sz, cap, cs', E, h7, h2, h3, h4, h9, by omega⟩, rfl⟩
  sub := fun v o f n c h => by
    obtain ⟨b, sz, cs, E, h1, h2, h3, h4, h5, h6⟩ := h
    obtain ⟨h7, h8⟩ := t.ob o b sz h1
    obtain ⟨cs', h9, h10⟩ := h8 cs E h5
    exact ⟨⟨b, sz, cs', E, h7, h2, h3, h4, h9, by omega⟩, rfl⟩
theorem Ext.tr {k : Nat} (h : Ext k ρ I w ρ' I' w') (hk : ρ.length ≤ k) : Tr ρ I w ρ' I' w' := ⟨h.im, fun o b sz ho => h.fix o b sz (by
  rcases Nat.lt_or_ge o ρ.length with h1 | h1
  · omega
  · rw [List.getElem?_eq_none h1] at ho; simp at ho) ho⟩
theorem Tr.ext {k : Nat} (t : Tr ρ I w ρ' I' w') (h1 : w'.os = w.os) (h2 : w'.tape = w.tape) (h3 : w'.output = w.output) (h4 : w.heap.size ≤ w'.heap.size) (hl : ρ.length ≤ ρ'.length)
    (h5 : ∀ k, k < w.heap.size → (∀ o sz : Nat, ρ[o]? ≠ some (some (k, sz))) → w'.heap[k]? = w.heap[k]?) (h6 : ∀ b, I' b → I b ∨ w.heap.size ≤ b ∨ ∃ o sz : Nat, ρ[o]? = some (some (b, sz)))
    (h7 : ∀ o b sz : Nat, ρ'[o]? = some (some (b, sz)) → (∃ o' sz' : Nat, ρ[o']? = some (some (b, sz'))) ∨ w.heap.size ≤ b) : Ext k ρ I w ρ' I' w' :=
  ⟨h1, h2, h3, h4, Nat.le_trans (Nat.min_le_right _ _) hl, h5, t.im, h6, h7, fun o b sz _ ho => t.ob o b sz ho⟩
variable (t : Tr ρ I w ρ' I' w')
include t
theorem RC.tr {vs : List Value} {p : PV} (h : RC I w vs p) : RC I' w' vs p := RC.mp t.mp h
theorem R1.tr {v : Value} {d : D} (h : R1 ρ I w v d) : R1 ρ' I' w' v d := by have := R1.mp t.mp h; rwa [mp1_id] at this
theorem RD.tr {v : Value} {d : D} (h : RD ρ I w v d) : RD ρ' I' w' v d := by have := RD.mp t.mp h; rwa [mpD_id] at this
theorem RDc.tr {vs : List Value} {d : D} (h : RDc ρ I w vs d) : RDc ρ' I' w' vs d := by have := RDc.mp t.mp h; rwa [mpS_id] at this
theorem ER.tr {a : Act} {E : Env} (h : ER ρ I w a E) : ER ρ' I' w' a E := fun i => RD.tr t (h i)
end tr

theorem rd_rdc {ρ : Rho} {I : Nat → Prop} {w : World} {v : Value} {d : D} {cs : List D} (h : RD ρ I w v d) (hcs : cellsD d = some cs) : RDc ρ I w v.cells.toList d := by
  cases d with
  | agg ds => exact rd_cells h hcs |> fun h => by simp [cellsD] at hcs; subst hcs; exact h
  | pv p =>
    cases p with
    | tup ps => simp [cellsD] at hcs
    | _ => exact rd_pv_cells h (by simp)
  | tup ds => simp [cellsD] at hcs
  | undef => simp [cellsD] at hcs
  | any => simp [cellsD] at hcs
  | nils => obtain ⟨a, rfl⟩ := rd_nils.1 h; exact ⟨_, rfl, h⟩
  | ptr o i j => obtain ⟨b, sz, h1, rfl⟩ := rd_ptr.1 h; exact ⟨_, rfl, h⟩
  | own o n => obtain ⟨b, sz, cap, cs', E', h1, rfl, h2⟩ := rd_own.1 h; exact ⟨_, rfl, h⟩
  | sub o f n c => obtain ⟨b, sz, cs', E', h1, rfl, h2⟩ := rd_sub.1 h; exact ⟨_, rfl, h⟩
  | clo f caps =>
    have h' : R1 ρ I w v (.clo f caps) := h
    obtain ⟨vs, rfl, h1⟩ := id h'
    exact ⟨_, rfl, h'⟩

/-! a new object -/
section push
variable {ρ : Rho} {I : Nat → Prop} {w w' : World} {S : Store} {ob : Ob} {cs : Array Value}
theorem push_tr (hs : St ρ I w S) (hh : w'.heap = w.heap.push (.cells cs ob.ty)) : Tr ρ I w (ρ ++ [some (w.heap.size, ob.sz)]) I w' where
  im := fun b hb => ⟨hb, by rw [hh, Array.getElem?_push, if_neg (by have := hs.old b hb; omega)]⟩
  ob := fun o b sz ho => by
    have hlt : o < ρ.length := by
      rcases Nat.lt_or_ge o ρ.length with h | h
      · exact h
      · rw [List.getElem?_eq_none h] at ho; simp at ho
    refine ⟨by rw [List.getElem?_append_left hlt]; exact ho, fun cs' E hc => ⟨cs', ?_, rfl⟩⟩
    rw [hh, Array.getElem?_push, if_neg (by have := hs.lt o b sz ho; omega)]
    exact hc
theorem push_ext {k0 : Nat} (hs : St ρ I w S) (hh : w'.heap = w.heap.push (.cells cs ob.ty)) (h1 : w'.os = w.os) (h2 : w'.tape = w.tape) (h3 : w'.output = w.output) :
    Ext k0 ρ I w (ρ ++ [some (w.heap.size, ob.sz)]) I w' := by
  refine (push_tr (ob := ob) hs hh).ext h1 h2 h3 (by rw [hh]; simp) (by simp) (fun k hk _ => by rw [hh, Array.getElem?_push, if_neg (by omega)]) (fun b h => .inl h) fun o b sz ho => ?_
  rw [List.getElem?_append] at ho
  split at ho
  · exact .inl ⟨o, sz, ho⟩
  · simp only [List.getElem?_singleton] at ho
    split at ho <;> simp at ho
    exact .inr (by omega)
theorem push_st (hs : St ρ I w S) (hh : w'.heap = w.heap.push (.cells cs ob.ty)) (hl : ob.xs.length * ob.sz ≤ cs.size)
    (hr : ∀ i (h : i < ob.xs.length), RDc ρ I w ((cs.toList.drop (i * ob.sz)).take ob.sz) ob.xs[i]) : St (ρ ++ [some (w.heap.size, ob.sz)]) I w' (S ++ [some ob]) where
  len := by simp [hs.len]
  old := fun b hb => by rw [hh]; simp; have := hs.old b hb; omega
  obs := fun o ob' ho => by
    have t := push_tr (ob := ob) hs hh
    rw [List.getElem?_append] at ho
    split at ho
    · rename_i hlt
      obtain ⟨b, sz, h1, h2, cs', h3, h4, h5⟩ := hs.obs o ob' ho
      refine ⟨b, sz, (t.ob o b sz h1).1, h2, cs', ?_, h4, fun i hi => (h5 i hi).tr t⟩
      rw [hh, Array.getElem?_push, if_neg (by have := hs.lt o b sz h1; omega)]
      exact h3
    · rename_i hge
      simp only [List.getElem?_singleton] at ho
      split at ho <;> simp at ho
      subst ho
      rename_i h0
      refine ⟨w.heap.size, ob.sz, ?_, rfl, cs, ?_, hl, fun i hi => (hr i hi).tr t⟩
      · rw [List.getElem?_append_right (by rw [hs.len]; omega), hs.len, h0]; rfl
      · rw [hh, Array.getElem?_push, if_pos rfl]
  lt := fun o b sz ho => by
    rw [List.getElem?_append] at ho
    split at ho
    · rw [hh]; simp; have := hs.lt o b sz ho; omega
    · simp only [List.getElem?_singleton] at ho
      split at ho <;> simp at ho
      rw [hh]; simp; omega
  apart := fun o b sz ob' hS ho => by
    rw [List.getElem?_append] at ho hS
    rw [hs.len] at ho
    split at ho
    · rename_i h
      rw [if_pos h] at hS
      exact hs.apart o b sz ob' hS ho
    · simp only [List.getElem?_singleton] at ho
      split at ho <;> simp at ho
      obtain ⟨rfl, rfl⟩ := ho
      exact fun hb => by have := hs.old _ hb; omega
  inj := fun o o' b sz sz' ob1 ob2 hS hS' ho ho' => by
    rw [List.getElem?_append] at ho ho' hS hS'
    rw [hs.len] at ho ho'
    split at ho <;> split at ho'
    · rename_i h h'
      rw [if_pos h] at hS
      rw [if_pos h'] at hS'
      exact hs.inj o o' b sz sz' ob1 ob2 hS hS' ho ho'
    · simp only [List.getElem?_singleton] at ho'
      split at ho' <;> simp at ho'
      have := hs.lt o b sz ho
      omega
    · simp only [List.getElem?_singleton] at ho
      split at ho <;> simp at ho
      have := hs.lt o' b sz' ho'
      omega
    · simp only [List.getElem?_singleton] at ho ho'
      split at ho <;> split at ho' <;> simp at ho ho'
      omega
theorem push_ptr (hs : St ρ I w S) : (ρ ++ [some (w.heap.size, ob.sz)])[S.length]? = some (some (w.heap.size, ob.sz)) := by
  rw [List.getElem?_append_right (by rw [hs.len]; omega), hs.len]; simp
end push

def OpX (P : Program) (o : Oper) (E : Env) (S : Store) (c : D → Store → Prop) : Prop :=
  ∀ (ρ : Rho) (I : Nat → Prop) (w : World) (a : Act) (next : Act → World → Prop) (Q : Exit → Act → World → Prop), St ρ I w S →
    (∀ t ∈ Oper.slots o, RD ρ I w (a.tmps.getD t Go.undef) (E t)) →
    (∀ u d ρ' I' w' S', c d S' → St ρ' I' w' S' → RD ρ' I' w' u d → Ext S.length ρ I w ρ' I' w' → next (a.put o.dst u) w') → o.wp P a w next Q

theorem OpX.of_free {P : Program} {o : Oper} {E : Env} {S : Store} {c : D → Store → Prop} (h : ∃ d, OpOK P S o E d ∧ c d S) : OpX P o E S c := by
  obtain ⟨d, h1, h2⟩ := h
  intro ρ I w a next Q hs he hn
  exact h1 ρ I w a next Q hs.toStR he fun u I' w' hg hu => hn u d ρ I' w' S h2 (hs.grow hg) hu (hg.ext' hs)

theorem wp_skip' {P : Program} {o : Oper} {a : Act} {w w' : World} {next : Act → World → Prop} {Q : Exit → Act → World → Prop}
    (h : (execOp a.eval o).run P w = .ok .skip w') (hn : next (a.put o.dst Go.undef) w') : o.wp P a w next Q := by
  unfold Oper.wp; rw [h]; exact hn

theorem dOf1_rdc {ρ : Rho} {I : Nat → Prop} {w : World} {v : Value} {d : D} (h : dOf1 v = some d) : RDc ρ I w [v] d := by
  unfold dOf1 at h
  split at h <;> simp at h <;> subst h
  · exact .int _ _
  · exact .bool _
  · exact ⟨_, rfl, _, rfl⟩
  · exact .nilp

/-! segments -/
theorem seg_get {L vs : List Value} {p : Nat} (hp : p + vs.length ≤ L.length) (n : Nat) :
    (L.take p ++ vs ++ L.drop (p + vs.length))[n]? = if n < p then L[n]? else if n < p + vs.length then vs[n - p]? else L[n]? := by
  rw [List.getElem?_append, List.getElem?_append]
  have hl : (L.take p).length = p := by simp; omega
  simp only [List.length_append, hl]
  by_cases h1 : n < p
  · simp [h1, show n < p + vs.length by omega]
  · by_cases h2 : n < p + vs.length
    · simp [h1, h2]
    · simp [h1, h2]
      congr 1; omega
theorem seg_at (L : List Value) (o n m : Nat) : ((L.drop o).take n)[m]? = if m < n then L[o + m]? else none := by
  rw [List.getElem?_take]
  split <;> simp
theorem seg_other {L vs : List Value} {p i q sz : Nat} (h1 : i * sz ≤ p) (h2 : p + vs.length ≤ (i + 1) * sz) (h3 : p + vs.length ≤ L.length) (hne : q ≠ i) :
    ((L.take p ++ vs ++ L.drop (p + vs.length)).drop (q * sz)).take sz = (L.drop (q * sz)).take sz := by
  apply List.ext_getElem?
  intro m
  rw [seg_at, seg_at]
  split
  · rename_i hm
    rw [seg_get h3]
    have : q * sz + m < p ∨ p + vs.length ≤ q * sz + m := by
      rcases Nat.lt_or_gt_of_ne hne with h | h
      · left
        have : (q + 1) * sz ≤ i * sz := Nat.mul_le_mul_right _ h
        rw [Nat.add_mul] at this
        omega
      · right
        have : (i + 1) * sz ≤ q * sz := Nat.mul_le_mul_right _ h
        omega
    rcases this with h | h
    · simp [h]
    · simp [show ¬ q * sz + m < p by omega, show ¬ q * sz + m < p + vs.length by omega]
  · rfl
theorem seg_same {L vs : List Value} {p i j sz : Nat} (h1 : p = i * sz + j) (h2 : j + vs.length ≤ sz) (h3 : i * sz + sz ≤ L.length) :
    ((L.take p ++ vs ++ L.drop (p + vs.length)).drop (i * sz)).take sz = ((L.drop (i * sz)).take sz).take j ++ vs ++ ((L.drop (i * sz)).take sz).drop (j + vs.length) := by
  apply List.ext_getElem?
  intro m
  have hl : ((L.drop (i * sz)).take sz).length = sz := by simp; omega
  rw [seg_at, seg_get (by omega), seg_get (by rw [hl]; exact h2), seg_at]
  subst h1
  by_cases hm : m < sz
  · simp only [hm, if_true]
    by_cases hj : m < j
    · simp [hj, show i * sz + m < i * sz + j by omega]
    · by_cases hj2 : m < j + vs.length
      · simp [hj, hj2, show ¬ i * sz + m < i * sz + j by omega, show i * sz + m < i * sz + j + vs.length by omega]
        congr 1; omega
      · simp [hj, hj2, show ¬ i * sz + m < i * sz + j by omega, show ¬ i * sz + m < i * sz + j + vs.length by omega]
  · simp [hm]
    omega

theorem set_tr {ρ : Rho} {I : Nat → Prop} {w w' : World} {b : Nat} {cs cs' : Array Value} {E : TypeId} (hb : w.heap[b]? = some (.cells cs E (0, 0))) (hI : ¬ I b)
    (hb' : w'.heap[b]? = some (.cells cs' E (0, 0))) (hsz : cs'.size = cs.size) (hoth : ∀ k, k ≠ b → w'.heap[k]? = w.heap[k]?) : Tr ρ I w ρ I w' where
  im := fun b' hI' => ⟨hI', hoth b' (fun e => hI (e ▸ hI'))⟩
  ob := fun _ b' _ ho' => ⟨ho', fun c F hc => by
    by_cases hbb : b' = b
    · subst hbb
      rw [hb] at hc
      simp at hc
      obtain ⟨rfl, rfl⟩ := hc
      exact ⟨cs', hb', hsz⟩
    · exact ⟨c, by rw [hoth b' hbb]; exact hc, rfl⟩⟩
theorem set_ext {k0 : Nat} {ρ : Rho} {I : Nat → Prop} {w w' : World} {o b sz : Nat} (ho : ρ[o]? = some (some (b, sz))) (ht : Tr ρ I w ρ I w')
    (h1 : w'.os = w.os) (h2 : w'.tape = w.tape) (h3 : w'.output = w.output) (h4 : w.heap.size ≤ w'.heap.size) (hoth : ∀ k, k ≠ b → w'.heap[k]? = w.heap[k]?) : Ext k0 ρ I w ρ I w' :=
  ht.ext h1 h2 h3 h4 (Nat.le_refl _) (fun k _ hn => hoth k (fun e => hn o sz (e ▸ ho))) (fun _ h => .inl h) fun o' _ sz' h => .inl ⟨o', sz', h⟩
theorem set_st {ρ : Rho} {I : Nat → Prop} {w w' : World} {S : Store} {o b sz : Nat} {cs cs' : Array Value} {ob ob' : Ob} (hs : St ρ I w S) (ho : ρ[o]? = some (some (b, sz)))
    (hSo : S[o]? = some (some ob)) (hty : ob'.ty = ob.ty) (hsz' : ob'.sz = ob.sz) (hsz0 : sz = ob.sz)
    (hb : w.heap[b]? = some (.cells cs ob.ty (0, 0))) (hb' : w'.heap[b]? = some (.cells cs' ob.ty (0, 0))) (hsz : cs'.size = cs.size) (hoth : ∀ k, k ≠ b → w'.heap[k]? = w.heap[k]?) (hws : w.heap.size ≤ w'.heap.size)
    (hl : ob'.xs.length * sz ≤ cs'.size) (hr : ∀ i (h : i < ob'.xs.length), RDc ρ I w' ((cs'.toList.drop (i * sz)).take sz) ob'.xs[i]) : St ρ I w' (S.set o (some ob')) where
  len := by simp [hs.len]
  old := fun k hk => Nat.lt_of_lt_of_le (hs.old k hk) hws
  obs := fun o2 ob2 h2 => by
    have t := set_tr (ρ := ρ) hb (hs.apart o b sz ob hSo ho) hb' hsz hoth
    rw [List.getElem?_set] at h2
    split at h2
    · rename_i e
      subst e
      split at h2 <;> simp at h2
      subst h2
      exact ⟨b, sz, ho, by rw [hsz0, hsz'], cs', by rw [hty]; exact hb', hl, hr⟩
    · rename_i hne
      obtain ⟨b2, sz2, h3, h4, cs2, h5, h6, h7⟩ := hs.obs o2 ob2 h2
      have hbb : b2 ≠ b := fun e => hne (hs.inj o o2 b sz sz2 ob ob2 hSo h2 ho (e ▸ h3))
      exact ⟨b2, sz2, h3, h4, cs2, by rw [hoth b2 hbb]; exact h5, h6, fun i hi => (h7 i hi).tr t⟩
  lt := fun o2 b2 sz2 h2 => Nat.lt_of_lt_of_le (hs.lt o2 b2 sz2 h2) hws
  apart := fun o2 b2 sz2 ob2 hS h2 => by
    rw [List.getElem?_set] at hS
    split at hS
    · rename_i e; subst e; exact hs.apart o b2 sz2 ob hSo h2
    · exact hs.apart o2 b2 sz2 ob2 hS h2
  inj := fun o1 o2 b2 sz1 sz2 ob1 ob2 hS1 hS2 h1 h2 => by
    have key : ∀ q (obq : Ob), (S.set o (some ob'))[q]? = some (some obq) → ∃ obq', S[q]? = some (some obq') := fun q obq hq => by
      rw [List.getElem?_set] at hq
      split at hq
      · rename_i e; subst e; exact ⟨ob, hSo⟩
      · exact ⟨obq, hq⟩
    obtain ⟨x1, hx1⟩ := key o1 ob1 hS1
    obtain ⟨x2, hx2⟩ := key o2 ob2 hS2
    exact hs.inj o1 o2 b2 sz1 sz2 x1 x2 hx1 hx2 h1 h2

section ops
variable {P : Program} {S : Store} {o : Oper} {E : Env} {c : D → Store → Prop}

theorem okS_box {T : TypeId} {x : Operand} {x' : Opd} {sz : Nat} {cs : List D} (hop : o.op = .box T x) (hx : dOpd x = some x') (hcs : cellsD (ev E x') = some cs) (hl : cs.length = sz)
    (h : c (.ptr S.length 0 0) (S ++ [some ⟨T, sz, [ev E x']⟩])) : OpX P o E S c := by
  intro ρ I w a next Q hs he hn
  have g := dOpd_sound hx fun t ht => he t (slots_mem (by simp [hop, Op.operands, ht]))
  have g1 := rd_cells g hcs
  have g2 := rd_rdc g hcs
  have hsz : (a.eval x).cells.size = sz := by have := g1.1; simp at this; omega
  let ob : Ob := ⟨T, sz, [ev E x']⟩
  have hh : (w.alloc (.cells (a.eval x).cells T)).heap = w.heap.push (.cells (a.eval x).cells ob.ty) := rfl
  refine wp_value (u := .pointer (some ⟨w.heap.size, 0, none⟩)) (w' := w.alloc (.cells (a.eval x).cells T)) ?_ ?_
  · simp [execOp, hop, Instr.box, newVar, newRow]
  · refine hn _ _ _ _ _ _ h (push_st (ob := ob) hs hh (by simp [ob, hsz]) ?_) ?_ (push_ext (ob := ob) hs hh rfl rfl rfl)
    · intro i hi
      have : i = 0 := by simpa [ob] using hi
      subst this
      simp only [ob, Nat.zero_mul, List.drop_zero]
      rw [List.take_of_length_le (by simp [hsz])]
      exact g2
    · exact rd_ptr.2 ⟨w.heap.size, sz, push_ptr (ob := ob) hs, by simp⟩

theorem okS_alloc {T : TypeId} {zero : List D} {agg : Bool} {sz : Nat} {d : D} (hop : o.op = .alloc T) (hz : zeroT P T = some zero) (hl : zero.length = sz)
    (hd : d = if agg then .agg zero else zero.headD .any) (h1 : agg = false → zero.length = 1)
    (h : c (.ptr S.length 0 0) (S ++ [some ⟨T, sz, [d]⟩])) : OpX P o E S c := by
  intro ρ I w a next Q hs he hn
  obtain ⟨zv, hz1, hz2⟩ := run_zero hz
  have g1 := dOfs_sound (ρ := ρ) (I := I) (w := w) hz1
  have hsz : zv.cells.size = sz := by have := g1.1; simp at this; omega
  let ob : Ob := ⟨T, sz, [d]⟩
  have hh : (w.alloc (.cells zv.cells T)).heap = w.heap.push (.cells zv.cells ob.ty) := rfl
  refine wp_value (u := .pointer (some ⟨w.heap.size, 0, none⟩)) (w' := w.alloc (.cells zv.cells T)) ?_ ?_
  · simp [execOp, hop, Instr.alloc, hz2, newVar, newRow]
  · refine hn _ _ _ _ _ _ h (push_st (ob := ob) hs hh (by simp [ob, hsz]) ?_) ?_ (push_ext (ob := ob) hs hh rfl rfl rfl)
    · intro i hi
      have : i = 0 := by simpa [ob] using hi
      subst this
      simp only [ob, Nat.zero_mul, List.drop_zero]
      rw [List.take_of_length_le (by simp [hsz])]
      cases agg with
      | true => simp only [if_true] at hd; subst hd; exact g1
      | false =>
        simp only [Bool.false_eq_true, if_false] at hd
        have := h1 rfl
        match zero, this with
        | [z], _ =>
          simp at hd
          subst hd
          match hv : zv.cells.toList, g1.1 with
          | [v], _ =>
            rw [hv] at hz1
            simp only [dOfs] at hz1
            split at hz1 <;> simp at hz1
            rename_i d' ds' h3 h4
            obtain ⟨rfl, rfl⟩ := hz1
            exact dOf1_rdc h3
    · exact rd_ptr.2 ⟨w.heap.size, sz, push_ptr (ob := ob) hs, by simp⟩

end ops
end Go.V

namespace Go.V

theorem oneCell_of_r1 {ρ : Rho} {I : Nat → Prop} {w : World} {v : Value} {d : D} (h : R1 ρ I w v d) (h1 : isOne d = true) (h2 : d ≠ .any) (h3 : d ≠ .undef) : v.oneCell' = true := by
  cases d with
  | pv p =>
    have h' : RC I w [v] p := h
    cases p with
    | agg ps => simp [isOne] at h1
    | _ => cases h' <;> rfl
  | nils => obtain ⟨a, rfl⟩ := h; rfl
  | ptr o i j => obtain ⟨b, sz, _, rfl⟩ := h; rfl
  | own o n => obtain ⟨b, sz, cap, cs, E, _, rfl, _⟩ := h; rfl
  | sub o f n c => obtain ⟨b, sz, cs, E, _, rfl, _⟩ := h; rfl
  | clo f caps => obtain ⟨vs, rfl, _⟩ := h; rfl
  | agg cs => simp [isOne] at h1
  | tup ds => simp [isOne] at h1
  | undef => exact absurd rfl h3
  | any => exact absurd rfl h2

def isCell : D → Bool
  | .agg _ => false
  | .pv (.agg _) => false
  | .tup _ => false
  | .undef => false
  | .any => false
  | _ => true

theorem cellsD_one {d : D} {cs : List D} (h : cellsD d = some cs) (h1 : isOne d = true) : cs = [d] := by
  cases d with
  | pv p => cases p <;> first | (simp [isOne] at h1; done) | (simp [cellsD] at h; done) | (simp [cellsD] at h; exact h.symm)
  | agg cs => simp [isOne] at h1
  | tup ds => simp [isOne] at h1
  | undef => simp [cellsD] at h
  | any => simp [cellsD] at h
  | _ => simp [cellsD] at h; exact h.symm
theorem isCell_one {d : D} (h : isCell d = true) : isOne d = true ∧ d ≠ .any ∧ d ≠ .undef := by
  cases d with
  | pv p => cases p <;> simp_all [isCell, isOne]
  | _ => simp_all [isCell, isOne]

section ops
variable {P : Program} {S : Store} {o : Oper} {E : Env} {c : D → Store → Prop}

theorem okS_store {T : TypeId} {x y : Operand} {x' y' : Opd} {sz i j oo : Nat} {cs ds : List D} {ob : Ob} (hop : o.op = .store T x y) (hs : szT P T = some sz) (hx : dOpd x = some x') (hy : dOpd y = some y')
    (e1 : ev E x' = .ptr oo i j) (hob : S[oo]? = some (some ob)) (hi : i < ob.xs.length) (hcs : cellsD ob.xs[i] = some cs) (hcl : cs.length = ob.sz)
    (hds : cellsD (ev E y') = some ds) (hdl : ds.length = sz) (hj : j + sz ≤ ob.sz) (hcell : ∀ d ∈ ds, isCell d = true) (h1 : isOne ob.xs[i] = true → isOne (ev E y') = true)
    (h : c .undef (S.set oo (some { ob with xs := ob.xs.set i (if isOne ob.xs[i] then ev E y' else .agg (setAt cs j ds)) }))) : OpX P o E S c := by
  intro ρ I w a next Q hst he hn
  have g1 := dOpd_sound (a := a) hx fun t ht => he t (slots_mem (by simp [hop, Op.operands, ht]))
  have g2 := dOpd_sound (a := a) hy fun t ht => he t (slots_mem (by simp [hop, Op.operands, ht]))
  rw [e1, rd_ptr] at g1
  obtain ⟨b, sz', hρ, hv⟩ := g1
  obtain ⟨b', sz'', h2, h3, cur, h4, h5, h6⟩ := hst.obs oo ob hob
  rw [hρ] at h2
  simp at h2
  obtain ⟨rfl, rfl⟩ := h2
  have g3 := rd_cells g2 hds
  have hvl : (a.eval y).cells.toList.length = sz := by rw [g3.1, hdl]
  have hone : ∀ u ∈ (a.eval y).cells.toList, u.oneCell' = true := fun u hu => by
    obtain ⟨q, hq, rfl⟩ := List.getElem_of_mem hu
    have hq' : q < ds.length := by rw [← g3.1]; exact hq
    have := hcell _ (List.getElem_mem hq')
    have h7 := g3.2 q hq hq'
    obtain ⟨k1, k2, k3⟩ := isCell_one this
    exact oneCell_of_r1 h7 k1 k2 k3
  have hbound : i * sz' + sz' ≤ cur.size := by
    have : (i + 1) * sz' ≤ ob.xs.length * sz' := Nat.mul_le_mul_right _ hi
    rw [Nat.add_mul] at this; omega
  have hstore := run_storeCells_at P b (i * sz' + j) ob.ty (a.eval y).cells.toList 0 cur w h4 (by omega) hone
  simp only [Nat.add_zero] at hstore
  let L' := (cur.toList.take (i * sz' + j) ++ (a.eval y).cells.toList ++ cur.toList.drop (i * sz' + j + (a.eval y).cells.toList.length)).toArray
  have hL : L'.size = cur.size := by simp [L']; simp at hvl; omega
  have hb' : (w.setRow b L').heap[b]? = some (.cells L' ob.ty (0, 0)) := setRow_heap w b cur L' ob.ty (0, 0) h4
  have hoth : ∀ k, k ≠ b → (w.setRow b L').heap[k]? = w.heap[k]? := fun k hk => setRow_other w b k L' hk
  have t := set_tr (ρ := ρ) h4 (hst.apart oo b sz' ob hob hρ) hb' hL hoth
  let ob' : Ob := { ob with xs := ob.xs.set i (if isOne ob.xs[i] then ev E y' else .agg (setAt cs j ds)) }
  have hold := h6 i hi
  have hcl0 := rdc_cells hold hcs
  refine wp_skip' (w' := w.setRow b L') ?_ ?_
  · have hsz2 : (a.eval y).cells.size = sz := by simpa using hvl
    simp [execOp, hop, Instr.storeAt, hv, Instr.sureAddr, storeVar, run_sizeOf' hs, hsz2, hstore, L']
  · refine hn _ _ _ _ _ _ h (set_st (ob' := ob') hst hρ hob rfl rfl h3 h4 hb' hL hoth (by simp) (by simp [ob', hL]; exact h5) ?_) (rd_undef.2 rfl) (set_ext hρ t rfl rfl rfl (by simp) hoth)
    intro q hq
    have hq' : q < ob.xs.length := by simpa [ob'] using hq
    by_cases hqi : q = i
    · subst hqi
      have e2 : (L'.toList.drop (q * sz')).take sz' = ((cur.toList.drop (q * sz')).take sz').take j ++ (a.eval y).cells.toList ++ ((cur.toList.drop (q * sz')).take sz').drop (j + (a.eval y).cells.toList.length) :=
        seg_same (L := cur.toList) rfl (by omega) (by simpa using hbound)
      rw [e2]
      have e3 : ob'.xs[q] = if isOne ob.xs[q] then ev E y' else .agg (setAt cs j ds) := by simp [ob']
      rw [e3]
      have hsegl : ((cur.toList.drop (q * sz')).take sz').length = sz' := by simp; omega
      cases hone' : isOne ob.xs[q] with
      | true =>
        simp only [if_true]
        have hc1 : cs.length = 1 := by rw [cellsD_one hcs hone']; rfl
        have hd1 : ds.length = 1 := by rw [cellsD_one hds (h1 hone')]; rfl
        have hj0 : j = 0 := by omega
        subst hj0
        rw [List.take_zero, List.nil_append, List.drop_of_length_le (by omega), List.append_nil]
        exact (rd_rdc g2 hds).tr t
      | false =>
        simp only [Bool.false_eq_true, if_false]
        have R := ((R1s.take hcl0 j).app g3).app (R1s.drop hcl0 (j + sz))
        have R' : R1s ρ I (w.setRow b L') _ _ := ⟨R.1, fun i hi hi' => R1.tr t (R.2 i hi hi')⟩
        rw [hvl]
        simp only [setAt, hdl]
        exact R'
    · have e2 : (L'.toList.drop (q * sz')).take sz' = (cur.toList.drop (q * sz')).take sz' :=
        seg_other (i := i) (by omega) (by rw [Nat.add_mul]; omega) (by simp; simp at hvl; omega) hqi
      rw [e2]
      have e3 : ob'.xs[q] = ob.xs[q] := by simp [ob', List.getElem_set_ne (fun e => hqi e.symm)]
      rw [e3]
      exact (h6 q hq').tr t

end ops
end Go.V

namespace Go.V

theorem made_seg {z : Array Value} {n i sz : Nat} (hz : z.size = sz) (hi : i < n) : ((madeCells z (n * sz)).toList.drop (i * sz)).take sz = z.toList := by
  have hle : i * sz + sz ≤ n * sz := by
    have : (i + 1) * sz ≤ n * sz := Nat.mul_le_mul_right _ hi
    rw [Nat.add_mul] at this; omega
  apply List.ext_getElem?
  intro m
  rw [seg_at]
  by_cases hm : m < sz
  · simp only [hm, if_true]
    have h1 : i * sz + m < n * sz := by omega
    subst hz
    have h2 : (i * z.size + m) % z.size = m := by
      rw [Nat.mul_comm, Nat.mul_add_mod, Nat.mod_eq_of_lt hm]
    simp only [madeCells, Array.toList_map, Array.toList_range, List.getElem?_map, List.getElem?_range h1, Option.map_some, h2]
    simp [hm]
  · simp [hm, hz]

def zeroEl (agg : Bool) (zero : List D) : D := if agg then .agg zero else zero.headD .any
theorem zeroEl_sound {ρ : Rho} {I : Nat → Prop} {w : World} {zv : Value} {zero : List D} {agg : Bool} (hz : dOfs zv.cells.toList = some zero) (h1 : agg = false → zero.length = 1) :
    RDc ρ I w zv.cells.toList (zeroEl agg zero) := by
  have g1 := dOfs_sound (ρ := ρ) (I := I) (w := w) hz
  cases agg with
  | true => exact g1
  | false =>
    have := h1 rfl
    match zero, this with
    | [z], _ =>
      match hv : zv.cells.toList, g1.1 with
      | [v], _ =>
        rw [hv] at hz
        simp only [dOfs] at hz
        split at hz <;> simp at hz
        rename_i d' ds' h3 h4
        obtain ⟨rfl, rfl⟩ := hz
        exact dOf1_rdc h3

theorem app_st {ρ : Rho} {I : Nat → Prop} {w w' : World} {S : Store} {o b2 sz : Nat} {ob ob' : Ob} {cs' : Array Value} (hs : St ρ I w S)
    (hSo : S[o]? = some (some ob)) (t : Tr ρ I w (ρ ++ [some (b2, sz)]) I w') 
    (hnI : ¬ I b2) (hb2 : b2 < w'.heap.size) (hnew : ∀ o' sz' ob2, o' ≠ o → S[o']? = some (some ob2) → ρ[o']? ≠ some (some (b2, sz'))) (hsz : sz = ob'.sz)
    (hcs : w'.heap[b2]? = some (.cells cs' ob'.ty (0, 0))) (hws : w.heap.size ≤ w'.heap.size) (hl : ob'.xs.length * sz ≤ cs'.size)
    (hoth : ∀ o' b' sz' ob2, o' ≠ o → S[o']? = some (some ob2) → ρ[o']? = some (some (b', sz')) → w'.heap[b']? = w.heap[b']?)
    (hr : ∀ i (h : i < ob'.xs.length), RDc ρ I w ((cs'.toList.drop (i * sz)).take sz) ob'.xs[i]) : St (ρ ++ [some (b2, sz)]) I w' (S.set o none ++ [some ob']) where
  len := by simp [hs.len]
  old := fun b hb => Nat.lt_of_lt_of_le (hs.old b hb) hws
  obs := fun o2 ob2 h2 => by
    have hlt : o < S.length := (List.getElem?_eq_some_iff.1 hSo).1
    rw [List.getElem?_append] at h2
    split at h2
    · rename_i h
      rw [List.getElem?_set] at h2
      split at h2
      · simp at h2
      · rename_i hne
        obtain ⟨b3, sz3, h5, h6, cs3, h7, h8, h9⟩ := hs.obs o2 ob2 h2
        exact ⟨b3, sz3, (t.ob o2 b3 sz3 h5).1, h6, cs3, by rw [hoth o2 b3 sz3 ob2 (fun e => hne e.symm) h2 h5]; exact h7, h8, fun i hi => (h9 i hi).tr t⟩
    · rename_i h
      simp only [List.getElem?_singleton] at h2
      split at h2 <;> simp at h2
      rename_i h0
      subst h2
      refine ⟨b2, sz, ?_, hsz, cs', hcs, hl, fun i hi => (hr i hi).tr t⟩
      simp at h h0
      rw [List.getElem?_append_right (by rw [hs.len]; omega), hs.len, h0]; rfl
  lt := fun o2 b' sz' h2 => by
    rw [List.getElem?_append] at h2
    split at h2
    · exact Nat.lt_of_lt_of_le (hs.lt o2 b' sz' h2) hws
    · simp only [List.getElem?_singleton] at h2
      split at h2 <;> simp at h2
      obtain ⟨rfl, rfl⟩ := h2
      exact hb2
  apart := fun o2 b' sz' ob2 hS h2 => by
    rw [List.getElem?_append] at h2 hS
    rw [hs.len] at h2
    split at h2
    · rename_i h
      rw [if_pos (by simpa using h)] at hS
      rw [List.getElem?_set] at hS
      split at hS
      · split at hS <;> simp at hS
      · exact hs.apart o2 b' sz' ob2 hS h2
    · simp only [List.getElem?_singleton] at h2
      split at h2 <;> simp at h2
      obtain ⟨rfl, rfl⟩ := h2
      exact hnI
  inj := fun o1 o2 b' sz1 sz2 ob1 ob2 hS1 hS2 h1 h2 => by
    rw [List.getElem?_append] at h1 h2 hS1 hS2
    rw [hs.len] at h1 h2
    have key : ∀ q (obq : Ob), (S.set o none)[q]? = some (some obq) → q ≠ o ∧ S[q]? = some (some obq) := fun q obq hq => by
      rw [List.getElem?_set] at hq
      split at hq
      · split at hq <;> simp at hq
      · rename_i hne; exact ⟨fun e => hne e.symm, hq⟩
    split at h1 <;> split at h2
    · rename_i g1 g2
      rw [if_pos (by simpa using g1)] at hS1
      rw [if_pos (by simpa using g2)] at hS2
      exact hs.inj o1 o2 b' sz1 sz2 ob1 ob2 (key _ _ hS1).2 (key _ _ hS2).2 h1 h2
    · rename_i g1 g2
      rw [if_pos (by simpa using g1)] at hS1
      simp only [List.getElem?_singleton] at h2
      split at h2 <;> simp at h2
      rw [← h2.1] at h1
      exact absurd h1 (hnew o1 sz1 ob1 (key _ _ hS1).1 (key _ _ hS1).2)
    · rename_i g1 g2
      rw [if_pos (by simpa using g2)] at hS2
      simp only [List.getElem?_singleton] at h1
      split at h1 <;> simp at h1
      rw [← h1.1] at h2
      exact absurd h2 (hnew o2 sz2 ob2 (key _ _ hS2).1 (key _ _ hS2).2)
    · rename_i g1 g2
      simp only [List.getElem?_singleton] at h1 h2
      split at h1 <;> split at h2 <;> simp at h1 h2
      omega

def elemsOf (S : Store) (sz : Nat) : D → Option (List D)
  | .nils => some []
  | .pv (.sl xs) => if xs.all (fun x => x.nc == sz) then some (xs.map .pv) else none
  | .own o n => match S[o]? with
    | some (some ob) => if ob.sz = sz ∧ n ≤ ob.xs.length then some (ob.xs.take n) else none
    | _ => none
  | .sub o off n _ => match S[o]? with
    | some (some ob) => if ob.sz = sz ∧ off + n ≤ ob.xs.length then some ((ob.xs.drop off).take n) else none
    | _ => none
  | _ => none

theorem elems_src {ρ : Rho} {I : Nat → Prop} {w : World} {S : Store} {sz : Nat} {v : Value} {d : D} {ys : List D} (hs : St ρ I w S) (h : RD ρ I w v d) (he : elemsOf S sz d = some ys) :
    ∃ a cap, v = .slice a ys.length cap ∧ (ys = [] ∨ ∃ b off, ∃ vs : List (List Value), a = some ⟨b, off, none⟩ ∧ vs.length = ys.length ∧ (∀ i (h : i < vs.length), vs[i].length = sz) ∧
      (∀ i (h : i < vs.length) (h' : i < ys.length), RDc ρ I w vs[i] ys[i]) ∧ ∀ j u, vs.flatten[j]? = some u → w.cell? ⟨b, off + j, none⟩ = some u) := by
  cases d with
  | nils =>
    simp [elemsOf] at he; subst he
    obtain ⟨a, rfl⟩ := rd_nils.1 h
    exact ⟨a, 0, rfl, .inl rfl⟩
  | pv p =>
    cases p with
    | sl xs =>
      simp only [elemsOf] at he
      split at he <;> simp at he
      rename_i hall
      subst he
      have hnc : ∀ x ∈ xs, x.nc = sz := fun x hx => by have := List.all_eq_true.1 hall x hx; simpa using this
      rcases rd_sl h with ⟨rfl, a, cap, rfl, _⟩ | ⟨b, off, cap, sz', vs, rfl, h1, h2, h3, h4, h5, h6⟩
      · exact ⟨a, cap, by simp, .inl rfl⟩
      · refine ⟨some ⟨b, off, none⟩, cap, by simp, ?_⟩
        by_cases hx : xs.length = 0
        · left; simp [List.eq_nil_of_length_eq_zero hx]
        right
        have hsz : sz' = sz := by
          have e1 := h4 0 (by omega)
          have e2 := (h6 0 (by omega)).len
          rw [e1] at e2
          rw [e2]
          exact hnc _ (List.getElem_mem _)
        subst hsz
        have hL : ∀ i (hi : i < ((List.range xs.length).map vs).length), ((List.range xs.length).map vs)[i].length = sz' := fun i hi => by simp at hi ⊢; exact h4 i hi
        refine ⟨b, off, (List.range xs.length).map vs, rfl, by simp, hL, fun i hi hi' => ?_, fun j u hj => ?_⟩
        · simp only [List.getElem_map, List.getElem_range]
          exact h6 i (by simpa using hi)
        · have hjl : j < ((List.range xs.length).map vs).flatten.length := (List.getElem?_eq_some_iff.1 hj).1
          have hfl : ((List.range xs.length).map vs).flatten.length = xs.length * sz' := by
            rw [List.length_flatten, List.map_map]
            have : (List.length ∘ vs : Nat → Nat) = fun i => (vs i).length := rfl
            rw [show (List.range xs.length).map (List.length ∘ vs) = List.replicate xs.length sz' from by
              apply List.ext_getElem (by simp)
              intro i h1 h2
              simp at h1 ⊢
              exact h4 i h1]
            simp
          have hsz0 : 0 < sz' := by
            rcases Nat.eq_zero_or_pos sz' with h | h
            · subst h; omega
            · exact h
          have hdiv : j / sz' < xs.length := (Nat.div_lt_iff_lt_mul hsz0).2 (by omega)
          have hmod : j % sz' < sz' := Nat.mod_lt _ hsz0
          have hjj : j / sz' * sz' + j % sz' = j := Nat.div_add_mod' j sz'
          have := flatten_at ((List.range xs.length).map vs) (j / sz') (by simpa using hdiv) hL (j % sz') hmod
          rw [hjj, hj] at this
          simp only [List.getElem_map, List.getElem_range] at this
          have hl := h4 (j / sz') hdiv
          rw [List.getElem?_eq_getElem (by omega)] at this
          have hc := h5 (j / sz') hdiv (j % sz') (by omega)
          rw [show off + j / sz' * sz' + j % sz' = off + j by omega] at hc
          rw [hc, this]
    | _ => simp [elemsOf] at he
  | own o n =>
    simp only [elemsOf] at he
    split at he <;> simp at he
    rename_i ob hob
    obtain ⟨⟨hsz, hn⟩, rfl⟩ := he
    obtain ⟨b, sz', cap, cs, E', h1, rfl, h2, h3, h4, h5⟩ := rd_own.1 h
    obtain ⟨b', sz'', h6, h7, cs', h8, h9, h10⟩ := hs.obs o ob hob
    rw [h1] at h6
    simp at h6
    obtain ⟨rfl, rfl⟩ := h6
    have : sz' = sz := by rw [h7, hsz]
    subst this
    refine ⟨_, cap, by simp [hn], .inr ⟨b, 0, (List.range n).map fun i => (cs'.toList.drop (i * sz')).take sz', rfl, by simp [hn], fun i hi => ?_, fun i hi hi' => ?_, fun j u hj => ?_⟩⟩
    · simp at hi ⊢
      have : (i + 1) * sz' ≤ ob.xs.length * sz' := Nat.mul_le_mul_right _ (by omega)
      rw [Nat.add_mul] at this
      omega
    · simp only [List.getElem_map, List.getElem_range, List.getElem_take]
      exact h10 i (by simp at hi; omega)
    · have hL : ∀ i (hi : i < ((List.range n).map fun i => (cs'.toList.drop (i * sz')).take sz').length), ((List.range n).map fun i => (cs'.toList.drop (i * sz')).take sz')[i].length = sz' := fun i hi => by
        simp at hi ⊢
        have : (i + 1) * sz' ≤ ob.xs.length * sz' := Nat.mul_le_mul_right _ (by omega)
        rw [Nat.add_mul] at this
        omega
      have hjl := (List.getElem?_eq_some_iff.1 hj).1
      have hfl : ((List.range n).map fun i => (cs'.toList.drop (i * sz')).take sz').flatten.length = n * sz' := by
        rw [List.length_flatten, List.map_map]
        rw [show (List.range n).map (List.length ∘ fun i => (cs'.toList.drop (i * sz')).take sz') = List.replicate n sz' from by
          apply List.ext_getElem (by simp)
          intro i h1 h2
          have := hL i (by simpa using h1)
          simpa using this]
        simp
      have hsz0 : 0 < sz' := by
        rcases Nat.eq_zero_or_pos sz' with h | h
        · subst h; omega
        · exact h
      have hdiv : j / sz' < n := (Nat.div_lt_iff_lt_mul hsz0).2 (by omega)
      have hmod : j % sz' < sz' := Nat.mod_lt _ hsz0
      have hjj : j / sz' * sz' + j % sz' = j := Nat.div_add_mod' j sz'
      have := flatten_at _ (j / sz') (by simpa using hdiv) hL (j % sz') hmod
      rw [hjj, hj] at this
      simp only [List.getElem_map, List.getElem_range] at this
      rw [seg_at, if_pos hmod, hjj] at this
      simp only [World.cell?, h8, Option.isSome_none, Bool.false_eq_true, if_false, Nat.zero_add]
      simpa using this.symm
  | sub o off n cap =>
    simp only [elemsOf] at he
    split at he <;> simp at he
    rename_i ob hob
    obtain ⟨⟨hsz, hn⟩, rfl⟩ := he
    obtain ⟨b, sz', cs, E', h1, rfl, h2, h3, h4, h5⟩ := rd_sub.1 h
    obtain ⟨b', sz'', h6, h7, cs', h8, h9, h10⟩ := hs.obs o ob hob
    rw [h1] at h6
    simp at h6
    obtain ⟨rfl, rfl⟩ := h6
    have : sz' = sz := by rw [h7, hsz]
    subst this
    refine ⟨_, cap, by simp; omega, .inr ⟨b, off * sz', (List.range n).map fun i => (cs'.toList.drop ((off + i) * sz')).take sz', rfl, by simp; omega, fun i hi => ?_, fun i hi hi' => ?_, fun j u hj => ?_⟩⟩
    · simp at hi ⊢
      have : (off + i + 1) * sz' ≤ ob.xs.length * sz' := Nat.mul_le_mul_right _ (by omega)
      rw [Nat.add_mul] at this
      omega
    · simp only [List.getElem_map, List.getElem_range, List.getElem_take, List.getElem_drop]
      exact h10 (off + i) (by simp at hi; omega)
    · have hL : ∀ i (hi : i < ((List.range n).map fun i => (cs'.toList.drop ((off + i) * sz')).take sz').length), ((List.range n).map fun i => (cs'.toList.drop ((off + i) * sz')).take sz')[i].length = sz' := fun i hi => by
        simp at hi ⊢
        have : (off + i + 1) * sz' ≤ ob.xs.length * sz' := Nat.mul_le_mul_right _ (by omega)
        rw [Nat.add_mul] at this
        omega
      have hjl := (List.getElem?_eq_some_iff.1 hj).1
      have hfl : ((List.range n).map fun i => (cs'.toList.drop ((off + i) * sz')).take sz').flatten.length = n * sz' := by
        rw [List.length_flatten, List.map_map]
        rw [show (List.range n).map (List.length ∘ fun i => (cs'.toList.drop ((off + i) * sz')).take sz') = List.replicate n sz' from by
          apply List.ext_getElem (by simp)
          intro i h1 h2
          have := hL i (by simpa using h1)
          simpa using this]
        simp
      have hsz0 : 0 < sz' := by
        rcases Nat.eq_zero_or_pos sz' with h | h
        · subst h; omega
        · exact h
      have hdiv : j / sz' < n := (Nat.div_lt_iff_lt_mul hsz0).2 (by omega)
      have hmod : j % sz' < sz' := Nat.mod_lt _ hsz0
      have hjj : j / sz' * sz' + j % sz' = j := Nat.div_add_mod' j sz'
      have := flatten_at _ (j / sz') (by simpa using hdiv) hL (j % sz') hmod
      rw [hjj, hj] at this
      simp only [List.getElem_map, List.getElem_range] at this
      rw [seg_at, if_pos hmod, Nat.add_mul, Nat.add_assoc, hjj] at this
      simp only [World.cell?, h8, Option.isSome_none, Bool.false_eq_true, if_false]
      simpa using this.symm
  | _ => simp [elemsOf] at he

theorem grow_drew (I : Nat → Prop) (w : World) : Grow I w I w.drew := ⟨rfl, rfl, rfl, Nat.le_refl _, fun _ _ => rfl, fun _ h => h, fun _ h => .inl h⟩

theorem flat_len {sz : Nat} {vs : List (List Value)} (h : ∀ i (h : i < vs.length), vs[i].length = sz) : vs.flatten.length = vs.length * sz := by
  induction vs with
  | nil => simp
  | cons v vs ih =>
    have h0 := h 0 (by simp)
    simp only [List.getElem_cons_zero] at h0
    rw [List.flatten_cons, List.length_append, h0, ih (fun i hi => by have := h (i + 1) (by simpa using hi); simpa using this)]
    simp only [List.length_cons, Nat.add_mul]; omega

theorem flat_seg {sz : Nat} {vs : List (List Value)} (h : ∀ i (h : i < vs.length), vs[i].length = sz) (i : Nat) (hi : i < vs.length) : (vs.flatten.drop (i * sz)).take sz = vs[i] := by
  apply List.ext_getElem?
  intro m
  rw [seg_at]
  split
  · rename_i hm; exact flatten_at vs i hi h m hm
  · rename_i hm
    rw [List.getElem?_eq_none (by rw [h i hi]; omega)]

section ops
variable {P : Program} {S : Store} {o : Oper} {E : Env} {c : D → Store → Prop}

theorem okS_mks {T e : TypeId} {i : TypeInfo} {x : Operand} {x' : Opd} {zero : List D} {agg : Bool} {k : IntKind} {n : Int} (hop : o.op = .makeSlice T x x) (hT : P.underlying T = some (.slice e)) (hi : P.info? e = some i)
    (hz : zeroT P e = some zero) (hzl : zero.length = i.size) (h1 : agg = false → zero.length = 1) (hx : dOpd x = some x') (e1 : ev E x' = .pv (.int k n)) (h0 : 0 ≤ n) (hb : (i.bytes : Int) * n ≤ 281474976710656) (h63 : n ≤ 9223372036854775807)
    (h : c (.own S.length n.toNat) (S ++ [some ⟨e, i.size, List.replicate n.toNat (zeroEl agg zero)⟩])) : OpX P o E S c := by
  intro ρ I w a next Q hs he hn
  have g := dOpd_sound (a := a) hx fun t ht => he t (slots_mem (by simp [hop, Op.operands, ht]))
  rw [e1, rd_int] at g
  obtain ⟨zv, hz1, hz2⟩ := run_zero hz
  have hzv : i.zero = some zv := by
    unfold zeroT at hz
    have h2 := hz2 w
    simp only [zeroValue, typeInfo, Sem.run_bind, run_program, Result.andThen_ok, hi] at h2
    cases hzz : i.zero with
    | none => simp [hzz] at h2
    | some z => simp [hzz] at h2; rw [h2]
  have hsz : zv.cells.size = i.size := by have := (dOfs_sound (ρ := ρ) (I := I) (w := w) hz1).1; simp at this; omega
  have hr := run_make (P := P) w T e i zv hT hi hzv k k n n h0 (Int.le_refl _) hb h63
  let cs := madeCells zv.cells (n.toNat * i.size)
  let ob : Ob := ⟨e, i.size, List.replicate n.toNat (zeroEl agg zero)⟩
  have hcl : cs.size = n.toNat * i.size := size_madeCells _ _
  have hh : (w.alloc (.cells cs e)).heap = w.heap.push (.cells cs ob.ty) := rfl
  refine wp_value (u := .slice (some ⟨w.heap.size, 0, none⟩) n.toNat n.toNat) (w' := w.alloc (.cells cs e)) ?_ ?_
  · simp [execOp, hop, g, hr, cs]
  · refine hn _ _ _ _ _ _ h (push_st (ob := ob) hs hh (by simp [ob, hcl]) ?_) ?_ (push_ext (ob := ob) hs hh rfl rfl rfl)
    · intro q hq
      have hq' : q < n.toNat := by simpa [ob] using hq
      have e2 : (cs.toList.drop (q * ob.sz)).take ob.sz = zv.cells.toList := made_seg hsz hq'
      rw [e2]
      simp only [ob, List.getElem_replicate]
      exact zeroEl_sound hz1 h1
    · refine rd_own.2 ⟨w.heap.size, i.size, n.toNat, cs, e, push_ptr (ob := ob) hs, rfl, Nat.le_refl _, by unfold maxLen; omega, ?_, by rw [hcl]; exact Nat.le_refl _⟩
      show (w.heap.push _)[w.heap.size]? = _
      rw [Array.getElem?_push]; simp

theorem run_append_zero (t ty e : TypeId) (i : TypeInfo) (ht : P.underlying t = some (.slice e)) (hi : P.info? e = some i) (base : Option Addr) (n cap : Nat) (hc : n ≤ cap) (a : Option Addr) (m : Nat) (w : World) :
    (Builtin.append_ #[t, t] ty #[.slice base n cap, .slice a 0 m]).run P w = .ok (.slice base n cap) w := by
  cases a <;> cases base <;> simp [Builtin.append_, run_underlying ht, sizeOf, typeInfo, hi, Builtin.lenOf, hc, Builtin.firstCells, loadCells, loadCellsFrom, storeCells]

theorem isCellsOK {ρ : Rho} {I : Nat → Prop} {w : World} {vs : List Value} {d : D} (h : RDc ρ I w vs d) (hd : ∀ cs, cellsD d = some cs → ∀ c ∈ cs, isCell c = true) (hn : cellsD d ≠ none) : ∀ u ∈ vs, u.oneCell' = true := by
  intro u hu
  cases hcs : cellsD d with
  | none => exact absurd hcs hn
  | some cs =>
    obtain ⟨h1, h2⟩ := rdc_cells h hcs
    obtain ⟨q, hq, rfl⟩ := List.getElem_of_mem hu
    have hq' : q < cs.length := by omega
    obtain ⟨k1, k2, k3⟩ := isCell_one (hd cs hcs _ (List.getElem_mem hq'))
    exact oneCell_of_r1 (h2 q hq hq') k1 k2 k3

def cellOK (d : D) : Bool :=
  match cellsD d with
  | some cs => cs.all isCell
  | none => false
theorem cellOK_sound {ρ : Rho} {I : Nat → Prop} {w : World} {vs : List Value} {d : D} (h : RDc ρ I w vs d) (hd : cellOK d = true) : ∀ u ∈ vs, u.oneCell' = true := by
  unfold cellOK at hd
  split at hd
  · rename_i cs hcs
    exact isCellsOK h (fun cs' h' c hc => by rw [hcs] at h'; simp at h'; subst h'; exact List.all_eq_true.1 hd c hc) (by rw [hcs]; simp)
  · simp at hd

theorem grownCap_bounds (w : World) (need old : Nat) (e : TypeId) (h : need ≤ maxLen) : need ≤ grownCap w need old e ∧ grownCap w need old e ≤ maxLen :=
  ⟨grownCap_ge w need old e, grownCap_le_maxLen w need old e h⟩

theorem okS_app {T e : TypeId} {i : TypeInfo} {x y : Operand} {x' y' : Opd} {zero : List D} {ys : List D} (hop : o.op = .call { callee := .builtin .append, args := #[x, y], argTypes := #[T, T] })
    (hT : P.underlying T = some (.slice e)) (hi : P.info? e = some i) (hz : zeroT P e = some zero) (hzl : zero.length = i.size) (hx : dOpd x = some x') (hy : dOpd y = some y')
    (hys : elemsOf S i.size (ev E y') = some ys) (hall : ys.all cellOK = true)
    (h : match ev E x' with
      | .nils => (ys = [] → c .nils S) ∧ (ys ≠ [] → ys.length * i.bytes ≤ 140737488355328 ∧ ys.length ≤ maxLen ∧ c (.own S.length ys.length) (S ++ [some ⟨e, i.size, ys⟩]))
      | .own oo n => (ys = [] → c (.own oo n) S) ∧ (ys ≠ [] → ∃ ob, S[oo]? = some (some ob) ∧ ob.ty = e ∧ ob.sz = i.size ∧ ob.xs.length = n ∧ (n + ys.length) * i.bytes ≤ 140737488355328 ∧ n + ys.length ≤ maxLen ∧
          c (.own S.length (n + ys.length)) (S.set oo none ++ [some { ob with xs := ob.xs ++ ys }]))
      | _ => False) : OpX P o E S c := by
  intro ρ I w a next Q hs he hn
  have g1 := dOpd_sound (a := a) hx fun t ht => he t (slots_mem (by simp [hop, Op.operands, Call.operands, ht]))
  have g2 := dOpd_sound (a := a) hy fun t ht => he t (slots_mem (by simp [hop, Op.operands, Call.operands, ht]))
  obtain ⟨ya, ycap, hyv, hsrc⟩ := elems_src hs g2 hys
  have hexec : ∀ v w', (Builtin.append_ #[T, T] o.type #[a.eval x, a.eval y]).run P w = .ok v w' → (execOp a.eval o).run P w = .ok (.value v) w' := fun v w' hr => by
    simp [execOp, hop, resolve, invoke, builtin, hr]
  obtain ⟨zv, hz1, hz2⟩ := run_zero hz
  have hzv : i.zero = some zv := by
    unfold zeroT at hz
    have h2 := hz2 w
    simp only [zeroValue, typeInfo, Sem.run_bind, run_program, Result.andThen_ok, hi] at h2
    cases hzz : i.zero with
    | none => simp [hzz] at h2
    | some z => simp [hzz] at h2; rw [h2]
  have hzsz : zv.cells.size = i.size := by have := (dOfs_sound (ρ := ρ) (I := I) (w := w) hz1).1; simp at this; omega
  split at h
  · -- nils
    rename_i e1
    rw [e1, rd_nils] at g1
    obtain ⟨xa, hxv⟩ := g1
    by_cases hy0 : ys = []
    · have hc := h.1 hy0
      subst hy0
      refine wp_value (hexec _ _ ?_) (hn _ _ _ _ _ _ hc hs (rd_nils.2 ⟨xa, rfl⟩) (Ext.refl _ _ _ _))
      rw [hxv, hyv]
      exact run_append_zero T o.type e i hT hi xa 0 0 (Nat.le_refl _) ya ycap w
    · obtain ⟨hb, hml, hc⟩ := h.2 hy0
      rcases hsrc with h0 | ⟨b, off, vs, rfl, hvl, hvs, hvr, hvc⟩
      · exact absurd h0 hy0
      have hlen : 0 < ys.length := List.length_pos_iff.2 hy0
      have hfl : vs.flatten.length = ys.length * i.size := by rw [flat_len hvs, hvl]
      have hcells : ∀ j u, vs.flatten[j]? = some u → w.cell? ((⟨b, off, none⟩ : Addr).add j) = some u := fun j u hj => by rw [Addr.add_none]; exact hvc j u hj
      have hsm : ((ys.length : Nat) : Int) ≤ 9223372036854775807 := by unfold maxLen at hml; omega
      obtain ⟨hcap1, hcap2⟩ := grownCap_bounds w ys.length 0 e hml
      let cs := vs.flatten.toArray ++ Builtin.zeroCells zv.cells (grownCap w ys.length 0 e - ys.length)
      have hcsz : cs.size = grownCap w ys.length 0 e * i.size := by
        simp only [cs, Array.size_append, List.size_toArray, hfl, size_zeroCells, hzsz, ← Nat.add_mul]
        congr 1; omega
      let ob : Ob := ⟨e, i.size, ys⟩
      have hsd := hs.grow (grow_drew I w)
      have hh : (w.drew.alloc (.cells cs e)).heap = w.drew.heap.push (.cells cs ob.ty) := rfl
      have hrun : (Builtin.append_ #[T, T] o.type #[a.eval x, a.eval y]).run P w = .ok (.slice (some ⟨w.heap.size, 0, none⟩) ys.length (grownCap w ys.length 0 e)) (w.drew.alloc (.cells cs e)) := by
        rw [hxv, hyv]
        cases xa with
        | none => exact run_append_nil (P := P) w T o.type e i zv hT hi hzv ⟨b, off, none⟩ ys.length ycap vs.flatten hfl hcells hlen hsm (by omega)
        | some xb =>
          have := run_append_grow (P := P) w T o.type e i zv hT hi hzv xb 0 0 [] (by simp) (by simp) ⟨b, off, none⟩ ys.length ycap vs.flatten hfl hcells (by omega) (by omega) (growslice_fits (by omega) (by simpa using hb))
          simpa [cs] using this
      refine wp_value (hexec _ _ hrun) (hn _ _ _ _ _ _ hc (push_st (ob := ob) hsd hh (by simp only [ob]; rw [hcsz]; exact Nat.mul_le_mul_right _ hcap1) ?_) ?_ (((grow_drew I w).ext' hs).trans (push_ext (ob := ob) (S := S) hsd hh rfl rfl rfl)))
      · intro q hq
        have hq' : q < vs.length := by rw [hvl]; exact hq
        have e2 : (cs.toList.drop (q * i.size)).take i.size = vs[q] := by
          have hle : q * i.size + i.size ≤ vs.flatten.length := by
            rw [hfl]
            have : (q + 1) * i.size ≤ ys.length * i.size := Nat.mul_le_mul_right _ (by omega)
            rw [Nat.add_mul] at this; omega
          rw [← flat_seg hvs q hq']
          apply List.ext_getElem?
          intro m
          rw [seg_at, seg_at]
          split
          · rename_i hm
            simp only [cs, Array.toList_append]
            rw [List.getElem?_append_left (by omega)]
          · rfl
        show RDc ρ I w.drew ((cs.toList.drop (q * i.size)).take i.size) ys[q]
        rw [e2]
        exact RDc.mono (fun _ h => h) (hs.keeps (grow_drew I w)) (hvr q hq' hq)
      · refine rd_own.2 ⟨w.heap.size, i.size, grownCap w ys.length 0 e, cs, e, push_ptr (ob := ob) hsd, rfl, hcap1, hcap2, ?_, by rw [hcsz]; exact Nat.le_refl _⟩
        show (w.heap.push _)[w.heap.size]? = _
        rw [Array.getElem?_push]; simp
  · -- own
    rename_i oo n e1
    rw [e1, rd_own] at g1
    obtain ⟨b0, sz0, cap, cur, E0, hρ, hxv, hncap, hcapm, hcur, hcursz⟩ := g1
    by_cases hy0 : ys = []
    · have hc := h.1 hy0
      subst hy0
      refine wp_value (hexec _ _ ?_) (hn _ _ _ _ _ _ hc hs (rd_own.2 ⟨b0, sz0, cap, cur, E0, hρ, rfl, hncap, hcapm, hcur, hcursz⟩) (Ext.refl _ _ _ _))
      rw [hxv, hyv]
      exact run_append_zero T o.type e i hT hi _ n cap hncap ya ycap w
    · obtain ⟨ob, hob, hty, hobsz, hxl, hb, hml, hc⟩ := h.2 hy0
      rcases hsrc with h0 | ⟨b, off, vs, rfl, hvl, hvs, hvr, hvc⟩
      · exact absurd h0 hy0
      obtain ⟨b', sz', h6, h7, cur', h8, h9, h10⟩ := hs.obs oo ob hob
      rw [hρ] at h6
      simp at h6
      obtain ⟨rfl, rfl⟩ := h6
      rw [hcur] at h8
      simp at h8
      obtain ⟨rfl, rfl⟩ := h8
      have hsz0 : sz0 = i.size := by rw [h7, hobsz]
      subst hsz0
      have hlen : 0 < ys.length := List.length_pos_iff.2 hy0
      have hfl : vs.flatten.length = ys.length * i.size := by rw [flat_len hvs, hvl]
      have hcells : ∀ j u, vs.flatten[j]? = some u → w.cell? ((⟨b, off, none⟩ : Addr).add j) = some u := fun j u hj => by rw [Addr.add_none]; exact hvc j u hj
      have hone : ∀ u ∈ vs.flatten, u.oneCell' = true := fun u hu => by
        obtain ⟨l, hl, hul⟩ := List.mem_flatten.1 hu
        obtain ⟨q, hq, rfl⟩ := List.getElem_of_mem hl
        have hq' : q < ys.length := by omega
        exact cellOK_sound (hvr q hq hq') (List.all_eq_true.1 hall _ (List.getElem_mem hq')) u hul
      have hnsz : n * i.size ≤ cur.size := by rw [← hxl]; exact h9
      have hmul : (n + ys.length) * i.size = n * i.size + ys.length * i.size := Nat.add_mul _ _ _
      let ob' : Ob := { ob with xs := ob.xs ++ ys }
      by_cases hroom : n + ys.length ≤ cap
      · have hfit : n * i.size + vs.flatten.length ≤ cur.size := by
          rw [hfl, ← hmul]; exact Nat.le_trans (Nat.mul_le_mul_right _ hroom) hcursz
        have hrun := run_append_room (P := P) w T o.type e i hT hi b0 n cap cur (hty ▸ hcur) ⟨b, off, none⟩ ys.length ycap vs.flatten hfl hcells hone hroom hfit
        let L' := (cur.toList.take (n * i.size) ++ vs.flatten ++ cur.toList.drop (n * i.size + vs.flatten.length)).toArray
        have hL : L'.size = cur.size := by simp only [L', List.size_toArray, List.length_append, List.length_take, List.length_drop, Array.length_toList]; omega
        have hb' : (w.setRow b0 L').heap[b0]? = some (.cells L' ob.ty (0, 0)) := setRow_heap w b0 cur L' ob.ty (0, 0) hcur
        have hoth : ∀ k, k ≠ b0 → (w.setRow b0 L').heap[k]? = w.heap[k]? := fun k hk => setRow_other w b0 k L' hk
        have hnI := hs.apart oo b0 _ ob hob hρ
        have t0 : Tr ρ I w ρ I (w.setRow b0 L') := set_tr hcur hnI hb' hL hoth
        have hget : ∀ (x : Option (Nat × Nat)), (ρ ++ [x])[S.length]? = some x := fun x => by rw [List.getElem?_append_right (by rw [hs.len]; omega), hs.len]; simp
        have hold : ∀ (o' b' sz' : Nat) (x : Option (Nat × Nat)), ρ[o']? = some (some (b', sz')) → (ρ ++ [x])[o']? = some (some (b', sz')) := fun o' b' sz' x ho' => by
          rw [List.getElem?_append_left (List.getElem?_eq_some_iff.1 ho').1]; exact ho'
        have t : Tr ρ I w (ρ ++ [some (b0, i.size)]) I (w.setRow b0 L') := ⟨t0.im, fun o' b' sz' ho' => ⟨hold o' b' sz' _ ho', (t0.ob o' b' sz' ho').2⟩⟩
        have hext : Ext S.length ρ I w (ρ ++ [some (b0, i.size)]) I (w.setRow b0 L') := by
          refine t.ext rfl rfl rfl (by simp) (by simp) (fun k _ hk => hoth k fun e => hk oo _ (e ▸ hρ)) (fun _ h => .inl h) fun o' b' sz' ho' => ?_
          rw [List.getElem?_append] at ho'
          split at ho'
          · exact .inl ⟨o', sz', ho'⟩
          · simp only [List.getElem?_singleton] at ho'
            split at ho' <;> simp at ho'
            exact .inl ⟨oo, _, ho'.1 ▸ hρ⟩
        have hseg : ∀ q, q < n → (L'.toList.drop (q * i.size)).take i.size = (cur.toList.drop (q * i.size)).take i.size := fun q hq => by
          have hle : q * i.size + i.size ≤ n * i.size := by
            have : (q + 1) * i.size ≤ n * i.size := Nat.mul_le_mul_right _ hq
            rw [Nat.add_mul] at this; omega
          apply List.ext_getElem?
          intro m
          rw [seg_at, seg_at]
          split
          · simp only [L']
            rw [seg_get (by simpa using hfit), if_pos (by omega)]
          · rfl
        have hseg2 : ∀ q (hq : q < vs.length), (L'.toList.drop ((n + q) * i.size)).take i.size = vs[q] := fun q hq => by
          have hle : q * i.size + i.size ≤ vs.flatten.length := by
            rw [hfl]
            have : (q + 1) * i.size ≤ ys.length * i.size := Nat.mul_le_mul_right _ (by omega)
            rw [Nat.add_mul] at this; omega
          rw [← flat_seg hvs q hq]
          apply List.ext_getElem?
          intro m
          rw [seg_at, seg_at, Nat.add_mul]
          split
          · simp only [L']
            rw [seg_get (by simpa using hfit), if_neg (by omega), if_pos (by omega)]
            congr 1; omega
          · rfl
        refine wp_value (hexec _ _ (by rw [hxv, hyv]; exact hrun)) (hn _ _ _ _ _ _ hc
          (app_st (ob' := ob') hs hob t hnI (by simp; exact hs.lt oo b0 _ hρ) (fun o' sz' ob2 hne hS' h' => hne (hs.inj o' oo b0 sz' _ ob2 ob hS' hob h' hρ)) (by simp [ob', hobsz]) hb' (by simp) ?_
            (fun o' b' sz' ob2 hne hS' h' => hoth b' (fun e => hne (hs.inj o' oo b' sz' _ ob2 ob hS' hob h' (e ▸ hρ)))) ?_)
          ?_ hext)
        · simp only [ob', List.length_append, hxl, hL]; rw [hmul]; omega
        · intro q hq
          by_cases hqn : q < n
          · rw [hseg q hqn]
            have : ob'.xs[q] = ob.xs[q]'(by omega) := by simp only [ob']; rw [List.getElem_append_left (by omega)]
            rw [this]
            exact h10 q (by omega)
          · have hq2 : q - n < vs.length := by simp [ob', hxl] at hq; omega
            have := hseg2 (q - n) hq2
            rw [show n + (q - n) = q by omega] at this
            rw [this]
            have e3 : ob'.xs[q] = ys[q - n]'(by omega) := by simp only [ob']; rw [List.getElem_append_right (by omega)]; congr 1; omega
            rw [e3]
            exact hvr _ hq2 (by omega)
        · exact rd_own.2 ⟨b0, i.size, cap, L', ob.ty, hget _, rfl, hroom, hcapm, hb', by rw [hL]; exact hcursz⟩
      · obtain ⟨hcap1, hcap2⟩ := grownCap_bounds w (n + ys.length) cap e hml
        have hsm : ((n + ys.length : Nat) : Int) ≤ 9223372036854775807 := by unfold maxLen at hml; omega
        let olds := cur.toList.take (n * i.size)
        have hol : olds.length = n * i.size := by simp only [olds, List.length_take, Array.length_toList]; omega
        have holds : ∀ j v, olds[j]? = some v → w.cell? ((⟨b0, 0, none⟩ : Addr).add j) = some v := fun j v hj => by
          rw [Addr.add_none, Nat.zero_add]
          simp only [World.cell?, hcur, Option.isSome_none, Bool.false_eq_true, if_false]
          simp only [olds, List.getElem?_take] at hj
          split at hj
          · simpa using hj
          · simp at hj
        have hrun := run_append_grow (P := P) w T o.type e i zv hT hi hzv ⟨b0, 0, none⟩ n cap olds hol holds ⟨b, off, none⟩ ys.length ycap vs.flatten hfl hcells (by omega) hsm (growslice_fits (by omega) hb)
        let cs := olds.toArray ++ vs.flatten.toArray ++ Builtin.zeroCells zv.cells (grownCap w (n + ys.length) cap e - (n + ys.length))
        have hcsz : cs.size = grownCap w (n + ys.length) cap e * i.size := by
          simp only [cs, Array.size_append, List.size_toArray, hfl, hol, size_zeroCells, hzsz, ← Nat.add_mul]
          congr 1; omega
        let w' := w.drew.alloc (.cells cs e)
        have hold : ∀ k, k < w.heap.size → w'.heap[k]? = w.heap[k]? := fun k hk => by
          show (w.heap.push _)[k]? = _
          rw [Array.getElem?_push, if_neg (by omega)]
        have hnewb : w'.heap[w.heap.size]? = some (.cells cs e (0, 0)) := by
          show (w.heap.push _)[w.heap.size]? = _
          rw [Array.getElem?_push]; simp
        have hget : ∀ (x : Option (Nat × Nat)), (ρ ++ [x])[S.length]? = some x := fun x => by rw [List.getElem?_append_right (by rw [hs.len]; omega), hs.len]; simp
        have hget2 : ∀ (o' b' sz' : Nat) (x : Option (Nat × Nat)), ρ[o']? = some (some (b', sz')) → (ρ ++ [x])[o']? = some (some (b', sz')) := fun o' b' sz' x ho' => by
          rw [List.getElem?_append_left (List.getElem?_eq_some_iff.1 ho').1]; exact ho'
        have t : Tr ρ I w (ρ ++ [some (w.heap.size, i.size)]) I w' := {
          im := fun k hk => ⟨hk, hold k (hs.old k hk)⟩
          ob := fun o' b' sz' ho' => ⟨hget2 o' b' sz' _ ho', fun c' F hc' => ⟨c', by rw [hold b' (hs.lt o' b' sz' ho')]; exact hc', rfl⟩⟩ }
        have hext : Ext S.length ρ I w (ρ ++ [some (w.heap.size, i.size)]) I w' := by
          refine t.ext rfl rfl rfl (by simp [w']) (by simp) (fun k hk _ => hold k hk) (fun _ h => .inl h) fun o' b' sz' h' => ?_
          rw [List.getElem?_append] at h'
          split at h'
          · exact .inl ⟨o', sz', h'⟩
          · simp only [List.getElem?_singleton] at h'
            split at h' <;> simp at h'
            exact .inr (by omega)
        have hof : (olds ++ vs.flatten).length = (n + ys.length) * i.size := by rw [List.length_append, hol, hfl, hmul]
        have hseg : ∀ q, q < n → (cs.toList.drop (q * i.size)).take i.size = (cur.toList.drop (q * i.size)).take i.size := fun q hq => by
          have hle : q * i.size + i.size ≤ n * i.size := by
            have : (q + 1) * i.size ≤ n * i.size := Nat.mul_le_mul_right _ hq
            rw [Nat.add_mul] at this; omega
          apply List.ext_getElem?
          intro m
          rw [seg_at, seg_at]
          split
          · simp only [cs, Array.toList_append]
            rw [List.getElem?_append_left (by show _ < (olds ++ vs.flatten).length; rw [hof, hmul]; omega), List.getElem?_append_left (by show _ < olds.length; rw [hol]; omega)]
            simp only [olds, List.getElem?_take]
            rw [if_pos (by omega)]
          · rfl
        have hseg2 : ∀ q (hq : q < vs.length), (cs.toList.drop ((n + q) * i.size)).take i.size = vs[q] := fun q hq => by
          have hle : q * i.size + i.size ≤ vs.flatten.length := by
            rw [hfl]
            have : (q + 1) * i.size ≤ ys.length * i.size := Nat.mul_le_mul_right _ (by omega)
            rw [Nat.add_mul] at this; omega
          rw [← flat_seg hvs q hq]
          apply List.ext_getElem?
          intro m
          rw [seg_at, seg_at, Nat.add_mul]
          split
          · simp only [cs, Array.toList_append]
            rw [List.getElem?_append_left (by show _ < (olds ++ vs.flatten).length; rw [hof, hmul]; omega), List.getElem?_append_right (by show olds.length ≤ _; rw [hol]; omega)]
            simp only [hol]
            congr 1; omega
          · rfl
        refine wp_value (hexec _ _ (by rw [hxv, hyv]; exact hrun)) (hn _ _ _ _ _ _ hc
          (app_st (ob' := ob') hs hob t (fun hI => by have := hs.old _ hI; omega) (by simp [w']) (fun o' sz' _ _ _ h' => by have := hs.lt o' _ _ h'; omega) (by simp [ob', hobsz]) (by simp only [ob', hty]; exact hnewb) (by simp [w']) ?_
            (fun o' b' sz' _ _ _ h' => hold b' (hs.lt o' b' sz' h')) ?_)
          ?_ hext)
        · simp only [ob', List.length_append, hxl, hcsz]; exact Nat.mul_le_mul_right _ hcap1
        · intro q hq
          by_cases hqn : q < n
          · rw [hseg q hqn]
            have : ob'.xs[q] = ob.xs[q]'(by omega) := by simp only [ob']; rw [List.getElem_append_left (by omega)]
            rw [this]
            exact h10 q (by omega)
          · have hq2 : q - n < vs.length := by simp [ob', hxl] at hq; omega
            have := hseg2 (q - n) hq2
            rw [show n + (q - n) = q by omega] at this
            rw [this]
            have e3 : ob'.xs[q] = ys[q - n]'(by omega) := by simp only [ob']; rw [List.getElem_append_right (by omega)]; congr 1; omega
            rw [e3]
            exact hvr _ hq2 (by omega)
        · exact rd_own.2 ⟨w.heap.size, i.size, _, cs, e, hget _, rfl, hcap1, hcap2, hnewb, by rw [hcsz]; exact Nat.le_refl _⟩
  · exact h.elim

end ops
end Go.V

namespace Go.V
open Go.Lib

/-! operations on a part of an own slice whose capacity is known -/
def splice (xs : List D) (p : Nat) (ys : List D) : List D := xs.take p ++ ys ++ xs.drop (p + ys.length)

theorem splice_get {xs ys : List D} {p q : Nat} (hp : p ≤ xs.length) : (splice xs p ys)[q]? = if q < p then xs[q]? else if q < p + ys.length then ys[q - p]? else xs[q]? := by
  unfold splice
  rw [List.append_assoc, List.getElem?_append, List.getElem?_append]
  simp only [List.length_take, show min p xs.length = p by omega]
  split
  · rw [List.getElem?_take, if_pos (by assumption)]
  · split
    · rw [if_pos (by omega)]
    · rw [if_neg (by omega), List.getElem?_drop]
      congr 1; omega
theorem splice_len {xs ys : List D} {p : Nat} (hp : p ≤ xs.length) : (splice xs p ys).length = max xs.length (p + ys.length) := by
  simp [splice]; omega

section write
variable {ρ : Rho} {I : Nat → Prop} {w : World} {S : Store}
theorem seg_write {oo b sz p : Nat} {cur : Array Value} {ob : Ob} {vs : List (List Value)} {ys : List D} (hs : St ρ I w S) (hob : S[oo]? = some (some ob)) (hρ : ρ[oo]? = some (some (b, sz)))
    (hcur : w.heap[b]? = some (.cells cur ob.ty (0, 0))) (hvl : vs.length = ys.length) (hvs : ∀ i (h : i < vs.length), vs[i].length = sz)
    (hvr : ∀ i (h : i < vs.length) (h' : i < ys.length), RDc ρ I w vs[i] ys[i]) (hp : p ≤ ob.xs.length) (hfit : (p + ys.length) * sz ≤ cur.size) :
    St ρ I (w.setRow b (cur.toList.take (p * sz) ++ vs.flatten ++ cur.toList.drop (p * sz + vs.flatten.length)).toArray) (S.set oo (some { ob with xs := splice ob.xs p ys })) ∧
    Tr ρ I w ρ I (w.setRow b (cur.toList.take (p * sz) ++ vs.flatten ++ cur.toList.drop (p * sz + vs.flatten.length)).toArray) ∧
    ∀ k0, Ext k0 ρ I w ρ I (w.setRow b (cur.toList.take (p * sz) ++ vs.flatten ++ cur.toList.drop (p * sz + vs.flatten.length)).toArray) := by
  obtain ⟨b', sz', h2, h3, cur', h4, h5, h6⟩ := hs.obs oo ob hob
  rw [hρ] at h2
  simp at h2
  obtain ⟨rfl, rfl⟩ := h2
  rw [hcur] at h4
  simp at h4
  subst h4
  have hfl : vs.flatten.length = ys.length * sz := by rw [flat_len hvs, hvl]
  have hmul : (p + ys.length) * sz = p * sz + ys.length * sz := Nat.add_mul _ _ _
  have hfit' : p * sz + vs.flatten.length ≤ cur.size := by omega
  generalize hL' : (cur.toList.take (p * sz) ++ vs.flatten ++ cur.toList.drop (p * sz + vs.flatten.length)).toArray = L'
  have hL : L'.size = cur.size := by subst hL'; simp; simp at hfit'; omega
  have hb' : (w.setRow b L').heap[b]? = some (.cells L' ob.ty (0, 0)) := setRow_heap w b cur L' ob.ty (0, 0) hcur
  have hoth : ∀ k, k ≠ b → (w.setRow b L').heap[k]? = w.heap[k]? := fun k hk => setRow_other w b k L' hk
  have t := set_tr (ρ := ρ) hcur (hs.apart oo b sz ob hob hρ) hb' hL hoth
  have hseg : ∀ q m, m < sz → L'.toList[q * sz + m]? = if q < p then cur.toList[q * sz + m]? else if q < p + ys.length then vs.flatten[(q - p) * sz + m]? else cur.toList[q * sz + m]? := fun q m hm => by
    subst hL'
    rw [show ((cur.toList.take (p * sz) ++ vs.flatten ++ cur.toList.drop (p * sz + vs.flatten.length)).toArray).toList = cur.toList.take (p * sz) ++ vs.flatten ++ cur.toList.drop (p * sz + vs.flatten.length) from rfl]
    rw [seg_get (by simpa using hfit')]
    by_cases h1 : q < p
    · have : (q + 1) * sz ≤ p * sz := Nat.mul_le_mul_right _ h1
      rw [Nat.add_mul] at this
      rw [if_pos (by omega), if_pos h1]
    · have h1' : p * sz ≤ q * sz := Nat.mul_le_mul_right _ (by omega)
      have e : q * sz = p * sz + (q - p) * sz := by rw [← Nat.add_mul]; congr 1; omega
      by_cases h2 : q < p + ys.length
      · have : (q + 1) * sz ≤ (p + ys.length) * sz := Nat.mul_le_mul_right _ h2
        rw [Nat.add_mul, hmul] at this
        rw [if_neg (by omega), if_pos (by omega), if_neg h1, if_pos h2]
        congr 1; omega
      · have : (p + ys.length) * sz ≤ q * sz := Nat.mul_le_mul_right _ (by omega)
        rw [hmul] at this
        rw [if_neg (by omega), if_neg (by omega), if_neg h1, if_neg h2]
  have hsl : ∀ q, q < ob.xs.length → q * sz + sz ≤ cur.size := fun q hq => by
    have : (q + 1) * sz ≤ ob.xs.length * sz := Nat.mul_le_mul_right _ hq
    rw [Nat.add_mul] at this; omega
  refine ⟨set_st (ob' := { ob with xs := splice ob.xs p ys }) hs hρ hob rfl rfl h3 hcur hb' hL hoth (by simp) ?_ ?_, t, fun k0 => set_ext hρ t rfl rfl rfl (by simp) hoth⟩
  · show (splice ob.xs p ys).length * sz ≤ L'.size
    rw [splice_len hp, hL]
    rcases Nat.le_total ob.xs.length (p + ys.length) with h | h
    · rw [Nat.max_eq_right h]; exact hfit
    · rw [Nat.max_eq_left h]; exact h5
  · intro q hq
    have hq2 := splice_get (ys := ys) (q := q) hp
    have hq' : q < (splice ob.xs p ys).length := hq
    rw [List.getElem?_eq_getElem hq'] at hq2
    show RDc ρ I (w.setRow b L') ((L'.toList.drop (q * sz)).take sz) (splice ob.xs p ys)[q]
    have same : (q < p ∨ p + ys.length ≤ q) → RDc ρ I (w.setRow b L') ((L'.toList.drop (q * sz)).take sz) (splice ob.xs p ys)[q] := fun hcase => by
      have e1 : ob.xs[q]? = some (splice ob.xs p ys)[q] := by
        rw [hq2]
        rcases hcase with h | h
        · rw [if_pos h]
        · rw [if_neg (by omega), if_neg (by omega)]
      obtain ⟨hq3, e2⟩ := List.getElem?_eq_some_iff.1 e1
      rw [← e2]
      have e3 : (L'.toList.drop (q * sz)).take sz = (cur.toList.drop (q * sz)).take sz := by
        apply List.ext_getElem?
        intro m
        rw [seg_at, seg_at]
        split
        · rename_i hm
          rw [hseg q m hm]
          rcases hcase with h | h
          · rw [if_pos h]
          · rw [if_neg (by omega), if_neg (by omega)]
        · rfl
      rw [e3]
      exact (h6 q hq3).tr t
    by_cases h1 : q < p
    · exact same (.inl h1)
    by_cases h2 : q < p + ys.length
    · rw [if_neg h1, if_pos h2] at hq2
      obtain ⟨hq3, e2⟩ := List.getElem?_eq_some_iff.1 hq2.symm
      rw [← e2]
      have hq4 : q - p < vs.length := by omega
      have e3 : (L'.toList.drop (q * sz)).take sz = vs[q - p] := by
        rw [← flat_seg hvs (q - p) hq4]
        apply List.ext_getElem?
        intro m
        rw [seg_at, seg_at]
        split
        · rename_i hm
          rw [hseg q m hm, if_neg h1, if_pos h2]
        · rfl
      rw [e3]
      exact (hvr _ hq4 hq3).tr t
    · exact same (.inr (by omega))
end write

section ops
variable {P : Program} {S : Store} {o : Oper} {E : Env} {c : D → Store → Prop}

theorem okX_isnil {op : BinOp} {ng : Bool} {T e T' : TypeId} {x : Operand} {x' : Opd} {n' c' : Nat} (hop : o.op = .binOp op T x (.const (.slice none n' c')) T') (hT : P.underlying T = some (.slice e)) (hng : op = if ng then .neq else .eql) (hx : dOpd x = some x')
    (h : match ev E x' with
      | .nils => c (.pv (.bool true)) S ∧ c (.pv (.bool false)) S
      | .pv (.sl xs) => c (.pv (.bool ng)) S ∧ (xs = [] → c (.pv (.bool !ng)) S)
      | .own _ _ => c (.pv (.bool ng)) S
      | .sub _ _ _ _ => c (.pv (.bool ng)) S
      | _ => False) : OpX P o E S c := by
  intro ρ I w a next Q hs he hn
  have g := dOpd_sound (a := a) hx fun t ht => he t (slots_mem (by simp [hop, Op.operands, ht]))
  have ex : ∀ (b : Option Addr) (n cap : Nat), a.eval x = .slice b n cap → (execOp a.eval o).run P w = .ok (.value (.bool (if ng then !b.isNone else b.isNone))) w := fun b n cap hv => by
    have hg : ∀ op : BinOp, (eqGuard op T x (.const (.slice none n' c')) (.slice b n cap) (.slice none n' c')).run P w = .ok () w := fun op => by
      cases op <;> simp [eqGuard]
    have hc : a.eval (.const (.slice none n' c')) = .slice none n' c' := rfl
    have hq : (Op.equalIn (9999 + 1) T (.slice b n cap) (.slice none n' c')).run P w = .ok b.isNone w := run_equalIn_slice_nil w 9999 T e b n cap n' c' hT
    cases ng <;> subst hng <;> simp [execOp, hop, hv, hc, hg, binOp, Op.equal, Op.maxDepth, hq]
  have fin : ∀ t : Bool, c (.pv (.bool t)) S → (execOp a.eval o).run P w = .ok (.value (.bool t)) w → o.wp P a w next Q := fun t hc hr =>
    wp_value hr (hn _ _ _ _ _ _ hc hs (rd_bool.2 rfl) (Ext.refl _ _ _ _))
  split at h
  · rename_i e1
    rw [e1, rd_nils] at g
    obtain ⟨b, hv⟩ := g
    have := ex _ _ _ hv
    cases hb : (if ng then !b.isNone else b.isNone) with
    | true => exact fin _ h.1 (by rw [this, hb])
    | false => exact fin _ h.2 (by rw [this, hb])
  · rename_i xs e1
    rw [e1] at g
    rcases rd_sl g with ⟨rfl, b, cap, hv, _⟩ | ⟨b, off, cap, sz', vs, hv, _⟩
    · have := ex _ _ _ hv
      cases hb : b.isNone with
      | true => exact fin _ (h.2 rfl) (by rw [this, hb]; cases ng <;> rfl)
      | false => exact fin _ h.1 (by rw [this, hb]; cases ng <;> rfl)
    · exact fin _ h.1 (by rw [ex _ _ _ hv]; cases ng <;> rfl)
  · rename_i e1
    rw [e1, rd_own] at g
    obtain ⟨b, sz, cap, cs, E', _, hv, _⟩ := g
    exact fin _ h (by rw [ex _ _ _ hv]; cases ng <;> rfl)
  · rename_i e1
    rw [e1, rd_sub] at g
    obtain ⟨b, sz, cs, E', _, hv, _⟩ := g
    exact fin _ h (by rw [ex _ _ _ hv]; cases ng <;> rfl)
  · exact h.elim

theorem zero_info {e : TypeId} {i : TypeInfo} {zero : List D} (hi : P.info? e = some i) (hz : zeroT P e = some zero) : ∃ zv, i.zero = some zv ∧ dOfs zv.cells.toList = some zero ∧ ∀ w, (zeroValue e).run P w = .ok zv w := by
  obtain ⟨zv, hz1, hz2⟩ := run_zero hz
  refine ⟨zv, ?_, hz1, hz2⟩
  have h2 := hz2 default
  simp only [zeroValue, typeInfo, Sem.run_bind, run_program, Result.andThen_ok, hi] at h2
  cases hzz : i.zero with
  | none => simp [hzz] at h2
  | some z => simp [hzz] at h2; rw [h2]

theorem run_copy_rowN (w : World) (dT sT ty elem : TypeId) (g o dLen dCap : Nat) (a : Addr) (sLen sCap : Nat) (cur : Array Value) (t : TypeId) (cs : List Value) {i : TypeInfo}
    (hu : P.underlying dT = some (.slice elem)) (hi : P.info? elem = some i)
    (hg : w.heap[g]? = some (.cells cur t (0, 0))) (hn : cs.length = Nat.min sLen dLen * i.size)
    (hsrc : ∀ j v, cs[j]? = some v → w.cell? (a.add j) = some v) (hfit : o + cs.length ≤ cur.size) (h1 : ∀ v ∈ cs, v.oneCell' = true) :
    (Builtin.copy_ #[dT, sT] ty #[.slice (some ⟨g, o, none⟩) dLen dCap, .slice (some a) sLen sCap]).run P w =
      .ok (goInt (Nat.min sLen dLen)) (w.setRow g (cur.toList.take o ++ cs ++ cur.toList.drop (o + cs.length)).toArray) := by
  have hl := run_loadCells_list (P := P) w a cs hsrc
  have hst := run_storeCells_at P g o t cs 0 cur w hg (by simpa using hfit) h1
  simp [Builtin.copy_, run_underlying hu, Builtin.lenOf, Builtin.firstCells, sizeOf, typeInfo, hi, ← hn, hl, hst]

theorem run_copy_zero (w : World) (dT sT ty elem : TypeId) (b : Option Addr) (dLen dCap : Nat) (a : Option Addr) (sLen sCap : Nat) {i : TypeInfo}
    (hu : P.underlying dT = some (.slice elem)) (hi : P.info? elem = some i) (hn : Nat.min sLen dLen = 0) :
    (Builtin.copy_ #[dT, sT] ty #[.slice b dLen dCap, .slice a sLen sCap]).run P w = .ok (goInt 0) w := by
  cases a <;> cases b <;> simp [Builtin.copy_, run_underlying hu, Builtin.lenOf, Builtin.firstCells, sizeOf, typeInfo, hi, hn, loadCells, loadCellsFrom, storeCells]

theorem take_src {α : Type} {sz : Nat} {vs : List (List α)} (h : ∀ i (h : i < vs.length), vs[i].length = sz) (n : Nat) : (vs.take n).flatten = vs.flatten.take (n * sz) := by
  induction vs generalizing n with
  | nil => simp
  | cons v vs ih =>
    cases n with
    | zero => simp
    | succ n =>
      have h0 := h 0 (by simp)
      simp only [List.getElem_cons_zero] at h0
      rw [List.take_succ_cons, List.flatten_cons, List.flatten_cons, ih (fun i hi => by have := h (i + 1) (by simpa using hi); simpa using this)]
      rw [show (n + 1) * sz = v.length + n * sz by rw [Nat.add_mul, h0]; omega, List.take_length_add_append]

theorem okX_copy {dT sT e : TypeId} {i : TypeInfo} {x y : Operand} {x' y' : Opd} {ys : List D} (hop : o.op = .call { callee := .builtin .copy, args := #[x, y], argTypes := #[dT, sT] })
    (hT : P.underlying dT = some (.slice e)) (hi : P.info? e = some i) (hx : dOpd x = some x') (hy : dOpd y = some y')
    (hys : elemsOf S i.size (ev E y') = some ys) 
    (h : match ev E x' with
      | .nils => c .any S
      | .own oo n => (ys.take n).all cellOK = true ∧ ∃ ob, S[oo]? = some (some ob) ∧ ob.sz = i.size ∧ n ≤ ob.xs.length ∧ c .any (S.set oo (some { ob with xs := splice ob.xs 0 (ys.take n) }))
      | .sub oo off n _ => (ys.take n).all cellOK = true ∧ ∃ ob, S[oo]? = some (some ob) ∧ ob.sz = i.size ∧ off + n ≤ ob.xs.length ∧ c .any (S.set oo (some { ob with xs := splice ob.xs off (ys.take n) }))
      | _ => False) : OpX P o E S c := by
  intro ρ I w a next Q hs he hn
  have g1 := dOpd_sound (a := a) hx fun t ht => he t (slots_mem (by simp [hop, Op.operands, Call.operands, ht]))
  have g2 := dOpd_sound (a := a) hy fun t ht => he t (slots_mem (by simp [hop, Op.operands, Call.operands, ht]))
  obtain ⟨ya, ycap, hyv, hsrc⟩ := elems_src hs g2 hys
  have hexec : ∀ v w', (Builtin.copy_ #[dT, sT] o.type #[a.eval x, a.eval y]).run P w = .ok v w' → (execOp a.eval o).run P w = .ok (.value v) w' := fun v w' hr => by
    simp [execOp, hop, resolve, invoke, builtin, hr]
  have main : ∀ (oo off n cap b : Nat) (ob : Ob), (ys.take n).all cellOK = true → S[oo]? = some (some ob) → ob.sz = i.size → off + n ≤ ob.xs.length → ρ[oo]? = some (some (b, i.size)) → a.eval x = .slice (some ⟨b, off * i.size, none⟩) n cap →
      c .any (S.set oo (some { ob with xs := splice ob.xs off (ys.take n) })) → o.wp P a w next Q := fun oo off n cap b ob hall hob hosz hlen hρ hxv hc => by
    obtain ⟨b', sz', h2, h3, cur, h4, h5, h6⟩ := hs.obs oo ob hob
    rw [hρ] at h2
    simp at h2
    obtain ⟨rfl, rfl⟩ := h2
    by_cases hz : min ys.length n = 0
    · have e0 : ys.take n = [] := by rw [List.take_eq_nil_iff]; rcases Nat.min_eq_zero_iff.1 hz with h | h; exact .inr (List.eq_nil_of_length_eq_zero h); exact .inl h
      have e1 : S.set oo (some { ob with xs := splice ob.xs off (ys.take n) }) = S := by
        rw [e0]
        have : splice ob.xs off [] = ob.xs := by simp [splice]
        rw [this]
        apply List.ext_getElem?
        intro q
        rw [List.getElem?_set]
        split
        · rename_i e; subst e
          rw [if_pos (List.getElem?_eq_some_iff.1 hob).1, hob]
        · rfl
      rw [e1] at hc
      refine wp_value (hexec _ _ (by rw [hxv, hyv]; exact run_copy_zero (P := P) w dT sT o.type e _ n cap ya ys.length ycap hT hi hz)) (hn _ _ _ _ _ _ hc hs rd_any (Ext.refl _ _ _ _))
    · rcases hsrc with h0 | ⟨yb, yoff, vs, rfl, hvl, hvs, hvr, hvc⟩
      · exact absurd (by rw [h0]; simp) hz
      have hvl' : (vs.take n).length = (ys.take n).length := by simp [hvl]
      have hvs' : ∀ q (h : q < (vs.take n).length), (vs.take n)[q].length = i.size := fun q hq => by simp only [List.getElem_take]; exact hvs q (by simp at hq; omega)
      have hvr' : ∀ q (h : q < (vs.take n).length) (h' : q < (ys.take n).length), RDc ρ I w (vs.take n)[q] (ys.take n)[q] := fun q hq hq' => by
        simp only [List.getElem_take]; exact hvr q (by simp at hq; omega) (by simp at hq'; omega)
      have hfl : (vs.take n).flatten.length = (ys.take n).length * i.size := by rw [flat_len hvs', hvl']
      have hsl : (off + (ys.take n).length) * i.size ≤ cur.size := Nat.le_trans (Nat.mul_le_mul_right _ (by simp; omega)) h5
      obtain ⟨q1, q2, q3⟩ := seg_write hs hob hρ h4 hvl' hvs' hvr' (p := off) (by omega) hsl
      have hone : ∀ u ∈ (vs.take n).flatten, u.oneCell' = true := fun u hu => by
        obtain ⟨l, hl, hul⟩ := List.mem_flatten.1 hu
        obtain ⟨q, hq, rfl⟩ := List.getElem_of_mem hl
        have hq' : q < (ys.take n).length := by omega
        exact cellOK_sound (hvr' q hq hq') (List.all_eq_true.1 hall _ (List.getElem_mem hq')) u hul
      have hcells : ∀ j v, (vs.take n).flatten[j]? = some v → w.cell? ((⟨yb, yoff, none⟩ : Addr).add j) = some v := fun j v hj => by
        rw [Addr.add_none]
        refine hvc j v ?_
        rw [take_src hvs, List.getElem?_take] at hj
        split at hj
        · exact hj
        · simp at hj
      have hfit : off * i.size + (vs.take n).flatten.length ≤ cur.size := by rw [hfl, ← Nat.add_mul]; exact hsl
      have hr := run_copy_rowN (P := P) w dT sT o.type e b (off * i.size) n cap ⟨yb, yoff, none⟩ ys.length ycap cur ob.ty (vs.take n).flatten hT hi h4 (by rw [hfl]; congr 1; simp [Nat.min_comm]) hcells hfit hone
      exact wp_value (hexec _ _ (by rw [hxv, hyv]; exact hr)) (hn _ _ _ _ _ _ hc q1 rd_any (q3 _))
  split at h
  · rename_i e1
    rw [e1, rd_nils] at g1
    obtain ⟨xa, hxv⟩ := g1
    exact wp_value (hexec _ _ (by rw [hxv, hyv]; exact run_copy_zero (P := P) w dT sT o.type e xa 0 0 ya ys.length ycap hT hi (Nat.min_zero _))) (hn _ _ _ _ _ _ h hs rd_any (Ext.refl _ _ _ _))
  · rename_i oo n e1
    obtain ⟨hall, ob, hob, hosz, hlen, hc⟩ := h
    rw [e1, rd_own] at g1
    obtain ⟨b, sz, cap, cs, E', hρ, hxv, _⟩ := g1
    obtain ⟨b', sz', h2, h3, _⟩ := hs.obs oo ob hob
    have hρ0 := hρ
    rw [hρ] at h2
    simp at h2
    obtain ⟨rfl, rfl⟩ := h2
    rw [h3, hosz] at hρ0
    exact main oo 0 n cap b ob hall hob hosz (by omega) hρ0 (by simpa using hxv) hc
  · rename_i oo off n cap e1
    obtain ⟨hall, ob, hob, hosz, hlen, hc⟩ := h
    rw [e1, rd_sub] at g1
    obtain ⟨b, sz, cs, E', hρ, hxv, _⟩ := g1
    obtain ⟨b', sz', h2, h3, _⟩ := hs.obs oo ob hob
    have hρ0 := hρ
    rw [hρ] at h2
    simp at h2
    obtain ⟨rfl, rfl⟩ := h2
    have hz : sz = i.size := by rw [h3, hosz]
    subst hz
    exact main oo off n cap b ob hall hob hosz hlen hρ0 hxv hc
  · exact h.elim


theorem zcells_eq {zv : Value} {sz : Nat} (h : zv.cells.size = sz) (n : Nat) : (Builtin.zeroCells zv.cells n).toList = (List.replicate n zv.cells.toList).flatten := by
  have hs : ∀ q (hq : q < (List.replicate n zv.cells.toList).length), (List.replicate n zv.cells.toList)[q].length = sz := fun q hq => by simp [h]
  apply List.ext_getElem?
  intro j
  have hfl : (List.replicate n zv.cells.toList).flatten.length = n * sz := by rw [flat_len hs]; simp
  by_cases hj : j < n * sz
  · have hsz0 : 0 < sz := by
      rcases Nat.eq_zero_or_pos sz with h | h
      · subst h; omega
      · exact h
    have hdiv : j / sz < n := (Nat.div_lt_iff_lt_mul hsz0).2 hj
    have hmod : j % sz < sz := Nat.mod_lt _ hsz0
    have hjj : j / sz * sz + j % sz = j := Nat.div_add_mod' j sz
    have e := flatten_at (List.replicate n zv.cells.toList) (j / sz) (by simpa using hdiv) hs (j % sz) hmod
    rw [hjj] at e
    rw [e]
    simp only [List.getElem_replicate]
    simp only [Builtin.zeroCells, Array.toList_map, Array.toList_range, List.getElem?_map, h]
    rw [List.getElem?_range hj]
    have : j % sz < zv.cells.size := by rw [h]; exact hmod
    simp [this]
  · rw [List.getElem?_eq_none (l := (List.replicate n zv.cells.toList).flatten) (by rw [hfl]; omega), List.getElem?_eq_none (by simp [Builtin.zeroCells, h]; omega)]

theorem okX_clear {T e : TypeId} {i : TypeInfo} {x : Operand} {x' : Opd} {zero : List D} {agg : Bool} (hop : o.op = .call { callee := .builtin .clear, args := #[x], argTypes := #[T] })
    (hT : P.underlying T = some (.slice e)) (hi : P.info? e = some i) (hz : zeroT P e = some zero) (hzl : zero.length = i.size) (h1 : agg = false → zero.length = 1) (hx : dOpd x = some x') (hzc : cellOK (zeroEl agg zero) = true)
    (h : match ev E x' with
      | .nils => c .any S
      | .sub oo off n _ => ∃ ob, S[oo]? = some (some ob) ∧ ob.sz = i.size ∧ off + n ≤ ob.xs.length ∧ (n = 0 → c .any S) ∧ (n ≠ 0 → c .any (S.set oo (some { ob with xs := splice ob.xs off (List.replicate n (zeroEl agg zero)) })))
      | _ => False) : OpX P o E S c := by
  intro ρ I w a next Q hs he hn
  have g := dOpd_sound (a := a) hx fun t ht => he t (slots_mem (by simp [hop, Op.operands, Call.operands, ht]))
  obtain ⟨zv, hzv, hz1, hz2⟩ := zero_info hi hz
  have hzsz : zv.cells.size = i.size := by have := (dOfs_sound (ρ := ρ) (I := I) (w := w) hz1).1; simp at this; omega
  have hexec : ∀ v w', (Builtin.clear_ #[T] o.type #[a.eval x]).run P w = .ok v w' → (execOp a.eval o).run P w = .ok (.value v) w' := fun v w' hr => by
    simp [execOp, hop, resolve, invoke, builtin, hr]
  split at h
  · rename_i e1
    rw [e1, rd_nils] at g
    obtain ⟨b, hv⟩ := g
    exact wp_value (u := .tuple #[]) (hexec _ _ (by rw [hv]; cases b <;> simp [Builtin.clear_, run_underlying hT])) (hn _ _ _ _ _ _ h hs rd_any (Ext.refl _ _ _ _))
  · rename_i oo off n cap e1
    obtain ⟨ob, hob, hosz, hlen, h0, hpos⟩ := h
    rw [e1, rd_sub] at g
    obtain ⟨b, sz, cs, E', hρ, hv, hncap, hcapm, hcs, hcsz⟩ := g
    by_cases hn0 : n = 0
    · subst hn0
      exact wp_value (u := .tuple #[]) (hexec _ _ (by rw [hv]; simp [Builtin.clear_, run_underlying hT])) (hn _ _ _ _ _ _ (h0 rfl) hs rd_any (Ext.refl _ _ _ _))
    · obtain ⟨b', sz', h2, h3, cur, h4, h5, h6⟩ := hs.obs oo ob hob
      have hρ0 := hρ
      rw [hρ] at h2
      simp at h2
      obtain ⟨rfl, rfl⟩ := h2
      have hsz : sz = i.size := by rw [h3, hosz]
      subst hsz
      have hvs : ∀ q (h : q < (List.replicate n zv.cells.toList).length), (List.replicate n zv.cells.toList)[q].length = i.size := fun q hq => by simp [hzsz]
      have hzr : RDc ρ I w zv.cells.toList (zeroEl agg zero) := zeroEl_sound hz1 h1
      have hsl : (off + (List.replicate n (zeroEl agg zero)).length) * i.size ≤ cur.size := Nat.le_trans (Nat.mul_le_mul_right _ (by simp; omega)) h5
      obtain ⟨q1, q2, q3⟩ := seg_write (vs := List.replicate n zv.cells.toList) (ys := List.replicate n (zeroEl agg zero)) hs hob hρ h4 (by simp) hvs (fun q hq hq' => by simp only [List.getElem_replicate]; exact hzr) (p := off) (by omega) hsl
      have hone : ∀ u ∈ (List.replicate n zv.cells.toList).flatten, u.oneCell' = true := fun u hu => by
        obtain ⟨l, hl, hul⟩ := List.mem_flatten.1 hu
        rw [(List.mem_replicate.1 hl).2] at hul
        exact cellOK_sound hzr hzc u hul
      have hfl : (List.replicate n zv.cells.toList).flatten.length = n * i.size := by rw [flat_len hvs]; simp
      have hst := run_storeCells_at P b (off * i.size) ob.ty (List.replicate n zv.cells.toList).flatten 0 cur w h4 (by rw [hfl]; simp [Nat.add_mul] at hsl; omega) hone
      simp only [Nat.add_zero] at hst
      rw [← zcells_eq hzsz] at hst q1 q2 q3
      obtain ⟨m, rfl⟩ : ∃ m, n = m + 1 := ⟨n - 1, by omega⟩
      exact wp_value (u := .tuple #[]) (hexec _ _ (by rw [hv]; simp [Builtin.clear_, run_underlying hT, hz2, hst])) (hn _ _ _ _ _ _ (hpos hn0) q1 rd_any (q3 _))
  · exact h.elim

theorem grow_new {ρ : Rho} {I : Nat → Prop} {w : World} {e : TypeId} {i : TypeInfo} {zv : Value} {vs : List (List Value)} {ys : List D} {cap : Nat} (hs : St ρ I w S) (hvl : vs.length = ys.length) (hvs : ∀ q (h : q < vs.length), vs[q].length = i.size)
    (hvr : ∀ q (h : q < vs.length) (h' : q < ys.length), RDc ρ I w vs[q] ys[q]) (hcap : ys.length ≤ cap) (hcapm : cap ≤ maxLen) (hzsz : zv.cells.size = i.size) {csv : Array Value} (hcsv : csv.toList = vs.flatten ++ (Builtin.zeroCells zv.cells (cap - ys.length)).toList) :
    ∃ ρ', St ρ' I (w.drew.alloc (.cells csv e)) (S ++ [some ⟨e, i.size, ys⟩]) ∧ RD ρ' I (w.drew.alloc (.cells csv e)) (.slice (some ⟨w.heap.size, 0, none⟩) ys.length cap) (.own S.length ys.length) ∧ ∀ k0, Ext k0 ρ I w ρ' I (w.drew.alloc (.cells csv e)) := by
  let ob : Ob := ⟨e, i.size, ys⟩
  have hfl : vs.flatten.length = ys.length * i.size := by rw [flat_len hvs, hvl]
  have hcsz : csv.size = cap * i.size := by
    have : csv.toList.length = csv.size := by simp
    rw [← this, hcsv, List.length_append, hfl, Array.length_toList (xs := Builtin.zeroCells zv.cells (cap - ys.length)), size_zeroCells, hzsz, ← Nat.add_mul]
    congr 1; omega
  have hsd := hs.grow (grow_drew I w)
  have hh : (w.drew.alloc (.cells csv e)).heap = w.drew.heap.push (.cells csv ob.ty) := rfl
  refine ⟨_, push_st (ob := ob) hsd hh (by simp only [ob]; rw [hcsz]; exact Nat.mul_le_mul_right _ hcap) ?_, ?_, fun k0 => ((grow_drew I w).ext' hs).trans (push_ext (ob := ob) (S := S) hsd hh rfl rfl rfl)⟩
  · intro q hq
    have hq' : q < vs.length := by rw [hvl]; exact hq
    have e2 : (csv.toList.drop (q * i.size)).take i.size = vs[q] := by
      have hle : q * i.size + i.size ≤ vs.flatten.length := by
        rw [hfl]
        have : (q + 1) * i.size ≤ ys.length * i.size := Nat.mul_le_mul_right _ (by omega)
        rw [Nat.add_mul] at this; omega
      rw [← flat_seg hvs q hq']
      apply List.ext_getElem?
      intro m
      rw [seg_at, seg_at]
      split
      · rename_i hm
        rw [hcsv, List.getElem?_append_left (by omega)]
      · rfl
    show RDc ρ I w.drew ((csv.toList.drop (q * i.size)).take i.size) ys[q]
    rw [e2]
    exact RDc.mono (fun _ h => h) (hs.keeps (grow_drew I w)) (hvr q hq' hq)
  · refine rd_own.2 ⟨w.heap.size, i.size, cap, csv, e, push_ptr (ob := ob) hsd, rfl, hcap, hcapm, ?_, by rw [hcsz]; exact Nat.le_refl _⟩
    show (w.heap.push _)[w.heap.size]? = _
    rw [Array.getElem?_push]; simp

theorem part_src {ρ : Rho} {I : Nat → Prop} {w : World} {oo off n cap sz : Nat} {ob : Ob} {v : Value} (hs : St ρ I w S) (hob : S[oo]? = some (some ob)) (hosz : ob.sz = sz) (hlen : off + n ≤ ob.xs.length) (g : RD ρ I w v (.sub oo off n cap)) :
    ∃ b cur, ρ[oo]? = some (some (b, sz)) ∧ v = .slice (some ⟨b, off * sz, none⟩) n cap ∧ n ≤ cap ∧ cap ≤ maxLen ∧ w.heap[b]? = some (.cells cur ob.ty (0, 0)) ∧ (off + cap) * sz ≤ cur.size ∧
      ∃ vs : List (List Value), vs.length = n ∧ (∀ i (h : i < vs.length), vs[i].length = sz) ∧ (∀ i (h : i < vs.length) (h' : i < ((ob.xs.drop off).take n).length), RDc ρ I w vs[i] ((ob.xs.drop off).take n)[i]) ∧
        ∀ j u, vs.flatten[j]? = some u → w.cell? ⟨b, off * sz + j, none⟩ = some u := by
  have g0 := g
  rw [rd_sub] at g
  obtain ⟨b, sz', cs, E', hρ, hv, h1, h2, h3, h4⟩ := g
  obtain ⟨b', sz'', k2, k3, cur, k4, k5, k6⟩ := hs.obs oo ob hob
  have hρ0 := hρ
  rw [hρ] at k2
  simp at k2
  obtain ⟨rfl, rfl⟩ := k2
  have hz : sz' = sz := by rw [k3, hosz]
  subst hz
  rw [h3] at k4
  simp at k4
  obtain ⟨rfl, rfl⟩ := k4
  refine ⟨b, cs, hρ0, hv, h1, h2, h3, h4, ?_⟩
  have hys : elemsOf S sz' (.sub oo off n cap) = some ((ob.xs.drop off).take n) := by simp [elemsOf, hob, hosz, hlen]
  obtain ⟨a, cap', e1, e2⟩ := elems_src hs g0 hys
  have hl : ((ob.xs.drop off).take n).length = n := by simp; omega
  rcases e2 with e2 | ⟨b2, off2, vs, e3, e4, e5, e6, e7⟩
  · have : n = 0 := by rw [← hl, e2]; rfl
    subst this
    exact ⟨[], rfl, by simp, by simp, by simp⟩
  · rw [hv, e3] at e1
    simp at e1
    obtain ⟨⟨rfl, rfl⟩, _⟩ := e1
    exact ⟨vs, by omega, e5, e6, e7⟩

theorem okX_apps {T e : TypeId} {i : TypeInfo} {x y : Operand} {x' y' : Opd} {zero ys : List D} {oo off n cap : Nat} {ob : Ob} (hop : o.op = .call { callee := .builtin .append, args := #[x, y], argTypes := #[T, T] })
    (hT : P.underlying T = some (.slice e)) (hi : P.info? e = some i) (hz : zeroT P e = some zero) (hzl : zero.length = i.size) (hx : dOpd x = some x') (hy : dOpd y = some y')
    (hys : elemsOf S i.size (ev E y') = some ys) (hall : ys.all cellOK = true) (e1 : ev E x' = .sub oo off n cap) (hob : S[oo]? = some (some ob)) (hosz : ob.sz = i.size) (hlen : off + n ≤ ob.xs.length)
    (h0 : ys = [] → c (.sub oo off n cap) S) (h1 : ys ≠ [] → n + ys.length ≤ cap → c (.sub oo off (n + ys.length) cap) (S.set oo (some { ob with xs := splice ob.xs (off + n) ys })))
    (h2 : ys ≠ [] → cap < n + ys.length → (n + ys.length) * i.bytes ≤ 140737488355328 ∧ n + ys.length ≤ maxLen ∧ c (.own S.length (n + ys.length)) (S ++ [some ⟨e, i.size, (ob.xs.drop off).take n ++ ys⟩])) : OpX P o E S c := by
  intro ρ I w a next Q hs he hn
  have g1 := dOpd_sound (a := a) hx fun t ht => he t (slots_mem (by simp [hop, Op.operands, Call.operands, ht]))
  have g2 := dOpd_sound (a := a) hy fun t ht => he t (slots_mem (by simp [hop, Op.operands, Call.operands, ht]))
  obtain ⟨ya, ycap, hyv, hsrc⟩ := elems_src hs g2 hys
  have hexec : ∀ v w', (Builtin.append_ #[T, T] o.type #[a.eval x, a.eval y]).run P w = .ok v w' → (execOp a.eval o).run P w = .ok (.value v) w' := fun v w' hr => by
    simp [execOp, hop, resolve, invoke, builtin, hr]
  obtain ⟨zv, hzv, hz1, hz2⟩ := zero_info hi hz
  have hzsz : zv.cells.size = i.size := by have := (dOfs_sound (ρ := ρ) (I := I) (w := w) hz1).1; simp at this; omega
  rw [e1] at g1
  have g1' := g1
  obtain ⟨b, cur, hρ, hxv, hncap, hcapm, hcur, hcsz, us, hul, hus, hur, huc⟩ := part_src hs hob hosz hlen g1
  by_cases hy0 : ys = []
  · have hc := h0 hy0
    subst hy0
    exact wp_value (hexec _ _ (by rw [hxv, hyv]; exact run_append_zero T o.type e i hT hi _ n cap hncap ya ycap w)) (hn _ _ _ _ _ _ hc hs (hxv ▸ g1') (Ext.refl _ _ _ _))
  · rcases hsrc with h | ⟨yb, yoff, vs, rfl, hvl, hvs, hvr, hvc⟩
    · exact absurd h hy0
    have hlp : 0 < ys.length := List.length_pos_iff.2 hy0
    have hfl : vs.flatten.length = ys.length * i.size := by rw [flat_len hvs, hvl]
    have hcells : ∀ j u, vs.flatten[j]? = some u → w.cell? ((⟨yb, yoff, none⟩ : Addr).add j) = some u := fun j u hj => by rw [Addr.add_none]; exact hvc j u hj
    have hone : ∀ u ∈ vs.flatten, u.oneCell' = true := fun u hu => by
      obtain ⟨l, hl, hul⟩ := List.mem_flatten.1 hu
      obtain ⟨q, hq, rfl⟩ := List.getElem_of_mem hl
      have hq' : q < ys.length := by omega
      exact cellOK_sound (hvr q hq hq') (List.all_eq_true.1 hall _ (List.getElem_mem hq')) u hul
    by_cases hroom : n + ys.length ≤ cap
    · have hfit : (off + n + ys.length) * i.size ≤ cur.size := Nat.le_trans (Nat.mul_le_mul_right _ (by omega)) hcsz
      obtain ⟨q1, q2, q3⟩ := seg_write hs hob hρ hcur hvl hvs hvr (p := off + n) hlen hfit
      have hfit2 : off * i.size + n * i.size + vs.flatten.length ≤ cur.size := by
        rw [hfl, ← Nat.add_mul, ← Nat.add_mul]; exact hfit
      have hst := run_storeCells_at P b (off * i.size + n * i.size) ob.ty vs.flatten 0 cur w hcur (by simpa using hfit2) hone
      simp only [Nat.add_zero] at hst
      have hf := run_firstCells_some (P := P) w i.size ys.length ⟨yb, yoff, none⟩ ys.length ycap vs.flatten hfl hcells
      have hrun : (Builtin.append_ #[T, T] o.type #[a.eval x, a.eval y]).run P w = .ok (.slice (some ⟨b, off * i.size, none⟩) (n + ys.length) cap)
          (w.setRow b (cur.toList.take ((off + n) * i.size) ++ vs.flatten ++ cur.toList.drop ((off + n) * i.size + vs.flatten.length)).toArray) := by
        rw [hxv, hyv, Nat.add_mul]
        simp [Builtin.append_, run_underlying hT, sizeOf, typeInfo, hi, Builtin.lenOf, hroom, hf, Addr.add_none, hst]
      refine wp_value (hexec _ _ hrun) (hn _ _ _ _ _ _ (h1 hy0 hroom) q1 ?_ (q3 _))
      obtain ⟨cs', k1, k2⟩ := (q2.ob oo b i.size hρ).2 cur ob.ty hcur
      exact rd_sub.2 ⟨b, i.size, cs', ob.ty, hρ, rfl, hroom, hcapm, k1, by rw [k2]; exact hcsz⟩
    · obtain ⟨hb, hml, hc⟩ := h2 hy0 (by omega)
      have hul2 : us.flatten.length = n * i.size := by rw [flat_len hus, hul]
      have hsm : ((n + ys.length : Nat) : Int) ≤ 9223372036854775807 := by unfold maxLen at hml; omega
      have holds : ∀ j u, us.flatten[j]? = some u → w.cell? ((⟨b, off * i.size, none⟩ : Addr).add j) = some u := fun j u hj => by rw [Addr.add_none]; exact huc j u hj
      have hrun := run_append_grow (P := P) w T o.type e i zv hT hi hzv ⟨b, off * i.size, none⟩ n cap us.flatten hul2 holds ⟨yb, yoff, none⟩ ys.length ycap vs.flatten hfl hcells (by omega) hsm (growslice_fits (by omega) hb)
      obtain ⟨hcap1, hcap2⟩ := grownCap_bounds w (n + ys.length) cap e hml
      have hpl : ((ob.xs.drop off).take n).length = n := by simp; omega
      have hal : ((ob.xs.drop off).take n ++ ys).length = n + ys.length := by rw [List.length_append, hpl]
      obtain ⟨ρ', r1, r2, r3⟩ := grow_new (e := e) (i := i) (zv := zv) (vs := us ++ vs) (ys := (ob.xs.drop off).take n ++ ys) (cap := grownCap w (n + ys.length) cap e) hs (by simp only [List.length_append]; omega)
        (fun q hq => by
          rw [List.getElem_append]
          split
          · exact hus _ _
          · exact hvs _ _)
        (fun q hq hq' => by
          rw [List.getElem_append, List.getElem_append]
          by_cases hqn : q < n
          · rw [dif_pos (by omega), dif_pos (by omega)]
            exact hur _ _ _
          · rw [dif_neg (by omega), dif_neg (by omega)]
            have : q - us.length = q - ((ob.xs.drop off).take n).length := by omega
            simp only [this]
            exact hvr _ (by simp at hq; omega) _)
        (by rw [hal]; exact hcap1) hcap2 hzsz
        (csv := us.flatten.toArray ++ vs.flatten.toArray ++ Builtin.zeroCells zv.cells (grownCap w (n + ys.length) cap e - (n + ys.length))) (by rw [hal]; simp)
      rw [hal] at r2
      exact wp_value (hexec _ _ (by rw [hxv, hyv]; exact hrun)) (hn _ _ _ _ _ _ hc r1 r2 (r3 _))

theorem okX_appz {T tn e : TypeId} {i : TypeInfo} {kn : IntKind} {x y : Operand} {x' y' : Opd} {zero : List D} {agg : Bool} {k : IntKind} {m : Int} (hop : o.op = .call { callee := .builtin .append, args := #[x, y], argTypes := #[T, tn] })
    (hT : P.underlying T = some (.slice e)) (htn : P.underlying tn = some (.int kn)) (hi : P.info? e = some i) (hz : zeroT P e = some zero) (hzl : zero.length = i.size) (hsz0 : 0 < i.size) (h1 : agg = false → zero.length = 1) (hx : dOpd x = some x') (hy : dOpd y = some y')
    (e2 : ev E y' = .pv (.int k m)) (hm : 0 < m)
    (h : match ev E x' with
      | .nils => m.toNat * i.bytes ≤ 140737488355328 ∧ m.toNat ≤ maxLen ∧ c (.own S.length m.toNat) (S ++ [some ⟨e, i.size, List.replicate m.toNat (zeroEl agg zero)⟩])
      | .sub oo off n cap => ∃ ob, S[oo]? = some (some ob) ∧ ob.sz = i.size ∧ off + n ≤ ob.xs.length ∧ cap < n + m.toNat ∧ (n + m.toNat) * i.bytes ≤ 140737488355328 ∧ n + m.toNat ≤ maxLen ∧
          c (.own S.length (n + m.toNat)) (S ++ [some ⟨e, i.size, (ob.xs.drop off).take n ++ List.replicate m.toNat (zeroEl agg zero)⟩])
      | _ => False) : OpX P o E S c := by
  intro ρ I w a next Q hs he hn
  have g1 := dOpd_sound (a := a) hx fun t ht => he t (slots_mem (by simp [hop, Op.operands, Call.operands, ht]))
  have g2 := dOpd_sound (a := a) hy fun t ht => he t (slots_mem (by simp [hop, Op.operands, Call.operands, ht]))
  rw [e2, rd_int] at g2
  have hexec : ∀ v w', (Builtin.append_ #[T, tn] o.type #[a.eval x, a.eval y]).run P w = .ok v w' → (execOp a.eval o).run P w = .ok (.value v) w' := fun v w' hr => by
    simp [execOp, hop, resolve, invoke, builtin, hr]
  obtain ⟨zv, hzv, hz1, hz2⟩ := zero_info hi hz
  have hzsz : zv.cells.size = i.size := by have := (dOfs_sound (ρ := ρ) (I := I) (w := w) hz1).1; simp at this; omega
  have hzr : RDc ρ I w zv.cells.toList (zeroEl agg zero) := zeroEl_sound hz1 h1
  obtain ⟨p, rfl⟩ : ∃ p : Nat, m = p := ⟨m.toNat, by omega⟩
  simp only [Int.toNat_natCast] at h
  have hp : 0 < p := by omega
  split at h
  · rename_i e1
    rw [e1, rd_nils] at g1
    obtain ⟨xa, hxv⟩ := g1
    obtain ⟨hb, hml, hc⟩ := h
    have hold : (Builtin.firstCells i.size 0 (.slice xa 0 0)).run P w.drew = .ok ([] : List Value).toArray w.drew := by
      cases xa <;> simp [Builtin.firstCells, loadCells, loadCellsFrom]
    have hrun := run_append_grow_zeros (P := P) w T tn o.type e i zv k kn hT htn hi hzv xa 0 0 [] hold p hp hsz0 (by omega) (by unfold maxLen at hml; omega) (by omega) (growslice_fits (by omega) (by simpa using hb))
    simp only [Nat.zero_add] at hrun
    obtain ⟨hcap1, hcap2⟩ := grownCap_bounds w p 0 e hml
    obtain ⟨ρ', r1, r2, r3⟩ := grow_new (e := e) (i := i) (zv := zv) (vs := List.replicate p zv.cells.toList) (ys := List.replicate p (zeroEl agg zero)) (cap := grownCap w p 0 e) hs (by simp) (fun q hq => by simp [hzsz]) (fun q hq hq' => by simp only [List.getElem_replicate]; exact hzr)
      (by simpa using hcap1) hcap2 hzsz (csv := (#[] : Array Value) ++ Builtin.zeroCells zv.cells p ++ Builtin.zeroCells zv.cells (grownCap w p 0 e - p)) (by simp [zcells_eq hzsz])
    rw [List.length_replicate] at r2
    exact wp_value (hexec _ _ (by rw [hxv, g2]; exact hrun)) (hn _ _ _ _ _ _ hc r1 r2 (r3 _))
  · rename_i oo off n cap e1
    obtain ⟨ob, hob, hosz, hlen, hg, hb, hml, hc⟩ := h
    rw [e1] at g1
    obtain ⟨b, cur, hρ, hxv, hncap, hcapm, hcur, hcsz, us, hul, hus, hur, huc⟩ := part_src hs hob hosz hlen g1
    have hul2 : us.flatten.length = n * i.size := by rw [flat_len hus, hul]
    have hold : (Builtin.firstCells i.size n (.slice (some ⟨b, off * i.size, none⟩) n cap)).run P w.drew = .ok us.flatten.toArray w.drew :=
      run_firstCells_some (P := P) w.drew i.size n ⟨b, off * i.size, none⟩ n cap us.flatten hul2 (fun j u hj => by rw [Addr.add_none]; simpa using huc j u hj)
    have hrun := run_append_grow_zeros (P := P) w T tn o.type e i zv k kn hT htn hi hzv (some ⟨b, off * i.size, none⟩) n cap us.flatten hold p hp hsz0 hg (by unfold maxLen at hml; omega) (Nat.le_trans (Nat.mul_le_mul_right _ (by omega)) (Nat.le_trans hb (by omega))) (growslice_fits (by omega) hb)
    obtain ⟨hcap1, hcap2⟩ := grownCap_bounds w (n + p) cap e hml
    have hpl : ((ob.xs.drop off).take n).length = n := by simp; omega
    have hal : ((ob.xs.drop off).take n ++ List.replicate p (zeroEl agg zero)).length = n + p := by rw [List.length_append, hpl, List.length_replicate]
    obtain ⟨ρ', r1, r2, r3⟩ := grow_new (e := e) (i := i) (zv := zv) (vs := us ++ List.replicate p zv.cells.toList) (ys := (ob.xs.drop off).take n ++ List.replicate p (zeroEl agg zero)) (cap := grownCap w (n + p) cap e) hs (by simp only [List.length_append, List.length_replicate]; omega)
      (fun q hq => by
        rw [List.getElem_append]
        split
        · exact hus _ _
        · simp [hzsz])
      (fun q hq hq' => by
        rw [List.getElem_append, List.getElem_append]
        by_cases hqn : q < n
        · rw [dif_pos (by omega), dif_pos (by omega)]
          exact hur _ _ _
        · rw [dif_neg (by omega), dif_neg (by omega)]
          simp only [List.getElem_replicate]
          exact hzr)
      (by rw [hal]; exact hcap1) hcap2 hzsz
      (csv := us.flatten.toArray ++ Builtin.zeroCells zv.cells p ++ Builtin.zeroCells zv.cells (grownCap w (n + p) cap e - (n + p))) (by rw [hal]; simp [zcells_eq hzsz])
    rw [hal] at r2
    exact wp_value (hexec _ _ (by rw [hxv, g2]; exact hrun)) (hn _ _ _ _ _ _ hc r1 r2 (r3 _))
  · exact h.elim

end ops
end Go.V

namespace Go.V

def OvlOK (P : Program) (f : FuncId) : Prop :=
  ∃ (fn : Func) (t u e : TypeId) (sz : Nat), P.funcs[f]? = some fn ∧ (fn.name == "runtime.NumGoroutine") = false ∧ fn.body.isNone = true ∧ Extern.findNext fn = none ∧
    Extern.find fn = some (Extern.SlicesOverlaps.overlaps #[t, t] #[u]) ∧ P.underlying t = some (.slice e) ∧ szT P e = some sz

theorem shape_of_cells {w : World} {b : Nat} {cs : Array Value} {T : TypeId} {fz : Nat × Nat} (h : w.heap[b]? = some (.cells cs T fz)) (hp : 0 < cs.size) : ∃ T k, w.shape? b = some (T, k + 1) := by
  unfold World.shape?
  rw [h]
  exact ⟨T, cs.size - 1, by simp; omega⟩
theorem shape_of_cell {w : World} {a : Addr} {v : Value} (h : w.cell? a = some v) : ∃ T k, w.shape? a.block = some (T, k + 1) := by
  unfold World.cell? at h
  split at h
  · rename_i cs T fz hb
    refine shape_of_cells hb ?_
    simp at h
    have := (Array.getElem?_eq_some_iff.1 h.2).1
    omega
  · cases h

theorem run_overlaps {P : Program} (w : World) (tS tR e : TypeId) (ht : P.underlying tS = some (.slice e)) (size : Nat) (hz : ∀ w, (Go.sizeOf e).run P w = .ok size w)
    (a b : Option Addr) (la ca lb cb : Nat) (h : lb = 0 ∨ a = none ∨ la = 0 ∨ ∃ x y, a = some x ∧ b = some y ∧ x.block ≠ y.block ∧ (∃ T k, w.shape? x.block = some (T, k + 1)) ∧ (∃ T k, w.shape? y.block = some (T, k + 1)) ∧ w.frozen? y = false ∧
      ∀ n, w.frozen? { block := y.block, off := n } = false) :
    (Extern.SlicesOverlaps.overlaps #[tS, tS] #[tR] #[.slice a la ca, .slice b lb cb]).run P w = .ok (.bool false) w := by
  change Sem.run P (α := Value) (do
    let .slice elem ← underlying tS | stuck _
    let size ← sizeOf elem
    match a, b with
    | some a, some b =>
      if la = 0 ∨ lb = 0 ∨ size = 0 then pure (Value.bool false)
      else if a.block != b.block && (← frozen a) && (← frozen b) then unsupported .addressObserved
      else do
        if a.block != b.block then do
          noView a; noView b
          if ← mayBeOne a b then return Value.bool ((← choose _) == 1)
        pure (Value.bool (a.block == b.block && a.off < b.off + lb * size && b.off < a.off + la * size))
    | _, _ => pure (Value.bool false)) w = _
  cases a with
  | none => simp [run_underlying ht, hz]
  | some x =>
    cases b with
    | none => simp [run_underlying ht, hz]
    | some y =>
      by_cases h0 : la = 0 ∨ lb = 0 ∨ size = 0
      · simp [run_underlying ht, hz, h0]
      · rcases h with h | h | h | ⟨x', y', h1, h2, hne, ⟨T, k, hsx⟩, ⟨T', k', hsy⟩, hf, hf'⟩
        · exact absurd (.inr (.inl h)) h0
        · cases h
        · exact absurd (.inl h) h0
        · simp at h1 h2
          subst h1 h2
          have hnb : (x.block != y.block) = true := by simpa using hne
          have hnb' : (x.block == y.block) = false := by simpa using hne
          cases hfx : w.frozen? x <;> simp [run_underlying ht, hz, h0, hnb, hnb', frozen, noView, viewAt, mayBeOne, stringish, shape, Sem.run, hsx, hsy, hf, hf', hfx]

section ops
variable {P : Program} {S : Store} {o : Oper} {E : Env} {c : D → Store → Prop}
theorem okX_ovl {f : FuncId} {x y : Operand} {x' y' : Opd} {ats : Array TypeId} (hop : o.op = .call { callee := .value (.func f), args := #[x, y], argTypes := ats }) (hx : dOpd x = some x') (hy : dOpd y = some y') (hf : OvlOK P f)
    (h : match ev E x', ev E y' with
      | .pv (.sl _), .nils => c (.pv (.bool false)) S
      | .pv (.sl xs), .sub oo off n cap => (∃ ob, S[oo]? = some (some ob) ∧ 0 < ob.sz) ∧ (xs.all fun x => decide (0 < x.nc)) = true ∧ c (.pv (.bool false)) S
      | _, _ => False) : OpX P o E S c := by
  intro ρ I w a next Q hs he hn
  have g1 := dOpd_sound (a := a) hx fun t ht => he t (slots_mem (by simp [hop, Op.operands, Call.operands, ht]))
  have g2 := dOpd_sound (a := a) hy fun t ht => he t (slots_mem (by simp [hop, Op.operands, Call.operands, ht]))
  obtain ⟨fn, t, u, e, sz, k1, k2, k3, k4, k5, k6, k7⟩ := hf
  have hz := fun w => run_sizeOf' k7 w
  have fin : ∀ a1 l1 c1 a2 l2 c2, a.eval x = .slice a1 l1 c1 → a.eval y = .slice a2 l2 c2 → (Extern.SlicesOverlaps.overlaps #[t, t] #[u] #[.slice a1 l1 c1, .slice a2 l2 c2]).run P w = .ok (.bool false) w → c (.pv (.bool false)) S → o.wp P a w next Q := fun a1 l1 c1 a2 l2 c2 e1 e2 hr hc => by
    refine wp_value (u := .bool false) ?_ (hn _ _ _ _ _ _ hc hs (rd_bool.2 rfl) (Ext.refl _ _ _ _))
    have hev : a.eval (.func f) = .func (.func f) #[] #[] := rfl
    simp [execOp, hop, resolve, hev, Deferred.ofValue, invoke, run_callFunc_extern k1 k2 k3 k4 k5, e1, e2, hr]
  split at h
  · rename_i xs e1 e2
    rw [e1] at g1
    rw [e2, rd_nils] at g2
    obtain ⟨b, hb⟩ := g2
    obtain ⟨a1, cap, hv, _⟩ := rd_sl' g1
    exact fin _ _ _ _ _ _ hv hb (run_overlaps w t u e k6 sz hz _ _ _ _ _ _ (.inl rfl)) h
  · rename_i xs oo off n cap e1 e2
    obtain ⟨⟨ob, hob, hpos⟩, hall, hc⟩ := h
    rw [e1] at g1
    rw [e2, rd_sub] at g2
    obtain ⟨b, sz', cs, E', hρ, hv2, h1, h2, h3, h4⟩ := g2
    have hnI := hs.apart oo b sz' ob hob hρ
    have hfro : ∀ q, w.frozen? ⟨b, q, none⟩ = false := fun q => by simp [World.frozen?, h3]
    rcases rd_sl g1 with ⟨rfl, a1, cap', hv, _⟩ | ⟨b1, off1, cap1, sz1, vs, hv, g3, g4, g5, g6, g7, g8⟩
    · exact fin _ _ _ _ _ _ hv hv2 (run_overlaps w t u e k6 sz hz _ _ _ _ _ _ (.inr (.inr (.inl rfl)))) hc
    · refine fin _ _ _ _ _ _ hv hv2 (run_overlaps w t u e k6 sz hz _ _ _ _ _ _ ?_) hc
      by_cases hn0 : n = 0
      · exact .inl hn0
      by_cases hx0 : xs.length = 0
      · exact .inr (.inr (.inl hx0))
      refine .inr (.inr (.inr ⟨_, _, rfl, rfl, fun e => hnI (by have e' : b1 = b := e; rw [← e']; exact g5), ?_, ?_, hfro _, hfro⟩))
      · have e3 := (g8 0 (by omega)).len
        have e4 := List.all_eq_true.1 hall _ (List.getElem_mem (show 0 < xs.length by omega))
        simp at e4
        have := g7 0 (by omega) 0 (by omega)
        simp at this
        exact shape_of_cell this
      · obtain ⟨b', sz'', j1, j2, cur, j3, j4, j5⟩ := hs.obs oo ob hob
        rw [hρ] at j1
        simp at j1
        obtain ⟨rfl, rfl⟩ := j1
        refine shape_of_cells h3 ?_
        have : 0 < (off + cap) * sz' := Nat.mul_pos (by omega) (by omega)
        omega
  · exact h.elim
end ops
end Go.V

namespace Go.V

/-! an own slice that may be empty: then it is nil (or like nil) -/
def ownD (o : Nat) : List D → D
  | [] => .nils
  | _ :: r => .own o (r.length + 1)
def obD (ty sz : Nat) : List D → Option Ob
  | [] => none
  | x :: r => some ⟨ty, sz, x :: r⟩
theorem ownD_ne {o : Nat} : ∀ {xs : List D}, xs ≠ [] → ownD o xs = .own o xs.length
  | [], h => absurd rfl h
  | _ :: _, _ => rfl
theorem obD_ne {ty sz : Nat} : ∀ {xs : List D}, xs ≠ [] → obD ty sz xs = some ⟨ty, sz, xs⟩
  | [], h => absurd rfl h
  | _ :: _, _ => rfl

section post
variable {P : Program} {o : Oper} {E : Env} {S : Store}
def Seen (S : Store) (d : D) (S1 : Store) (d2 : D) (S2 : Store) : Prop :=
  ∀ (ρ : Rho) (I : Nat → Prop) (w : World) (v : Value), S.length ≤ S1.length → St ρ I w S1 → RD ρ I w v d → ∃ ρ' I', St ρ' I' w S2 ∧ RD ρ' I' w v d2 ∧ Ext S.length ρ I w ρ' I' w
theorem OpX.post {c c0 : D → Store → Prop} (h : OpX P o E S c0) (hp : ∀ d S1, c0 d S1 → S.length ≤ S1.length ∧ ∃ d2 S2, c d2 S2 ∧ Seen S d S1 d2 S2) : OpX P o E S c := fun ρ I w a next Q hs he hn =>
  h ρ I w a next Q hs he fun u d ρ1 I1 w1 S1 h1 h2 h3 h4 => by
    obtain ⟨hl, d2, S2, k1, k2⟩ := hp d S1 h1
    obtain ⟨ρ2, I2, k3, k4, k5⟩ := k2 ρ1 I1 w1 u hl h2 h3
    exact hn u d2 ρ2 I2 w1 S2 k1 k3 k4 (h4.trans k5)

theorem seen_pad {d : D} {S1 : Store} : Seen S d S1 d (S1 ++ [none]) := fun ρ I w v hl hs hr => by
  have hold : ∀ (o' b' sz' : Nat), ρ[o']? = some (some (b', sz')) → (ρ ++ [none])[o']? = some (some (b', sz')) := fun o' b' sz' ho' => by
    rw [List.getElem?_append_left (List.getElem?_eq_some_iff.1 ho').1]; exact ho'
  have hback : ∀ (o' b' sz' : Nat), (ρ ++ [none])[o']? = some (some (b', sz')) → ρ[o']? = some (some (b', sz')) := fun o' b' sz' ho' => by
    rw [List.getElem?_append] at ho'
    split at ho'
    · exact ho'
    · simp only [List.getElem?_singleton] at ho'
      split at ho' <;> simp at ho'
  have hSb : ∀ (o' : Nat) (ob : Ob), (S1 ++ [none])[o']? = some (some ob) → S1[o']? = some (some ob) := fun o' ob ho' => by
    rw [List.getElem?_append] at ho'
    split at ho'
    · exact ho'
    · simp only [List.getElem?_singleton] at ho'
      split at ho' <;> simp at ho'
  have t0 : Tr ρ I w (ρ ++ [none]) I w := ⟨fun b hb => ⟨hb, rfl⟩, fun o' b' sz' ho' => ⟨hold o' b' sz' ho', fun c F hc => ⟨c, hc, rfl⟩⟩⟩
  refine ⟨ρ ++ [none], I, { len := by simp [hs.len], old := hs.old, obs := ?_, lt := fun o b sz ho => hs.lt o b sz (hback o b sz ho), apart := fun o b sz ob hS ho => hs.apart o b sz ob (hSb o ob hS) (hback o b sz ho), inj := fun o o' b sz sz' ob ob' h1 h2 h3 h4 => hs.inj o o' b sz sz' ob ob' (hSb _ _ h1) (hSb _ _ h2) (hback _ _ _ h3) (hback _ _ _ h4) }, RD.tr t0 hr, ?_⟩
  · intro o' ob ho'
    obtain ⟨b, sz, h1, h2, cs, h3, h4, h5⟩ := hs.obs o' ob (hSb o' ob ho')
    exact ⟨b, sz, hold _ _ _ h1, h2, cs, h3, h4, fun i hi => (h5 i hi).tr t0⟩
  · exact t0.ext rfl rfl rfl (Nat.le_refl _) (by simp) (fun _ _ _ => rfl) (fun _ h => .inl h) fun o' b' sz' ho' => .inl ⟨o', sz', hback _ _ _ ho'⟩

theorem seen_move {oo n : Nat} {ob : Ob} {S1 : Store} (hS : S1[oo]? = some (some ob)) : Seen S (.own oo n) S1 (.own S1.length n) (S1.set oo none ++ [some ob]) := fun ρ I w v hl hs hr => by
  obtain ⟨b, sz, h1, h2, cs, h3, h4, h5⟩ := hs.obs oo ob hS
  have hlen := hs.len
  have hget : (ρ ++ [some (b, sz)])[S1.length]? = some (some (b, sz)) := by rw [List.getElem?_append_right (by omega)]; simp [hlen]
  have hold : ∀ (o' b' sz' : Nat), ρ[o']? = some (some (b', sz')) → (ρ ++ [some (b, sz)])[o']? = some (some (b', sz')) := fun o' b' sz' ho' => by
    rw [List.getElem?_append_left (List.getElem?_eq_some_iff.1 ho').1]; exact ho'
  have t0 : Tr ρ I w (ρ ++ [some (b, sz)]) I w := ⟨fun b hb => ⟨hb, rfl⟩, fun o' b' sz' ho' => ⟨hold o' b' sz' ho', fun c F hc => ⟨c, hc, rfl⟩⟩⟩
  refine ⟨ρ ++ [some (b, sz)], I, app_st hs hS t0 (hs.apart oo b sz ob hS h1) (hs.lt oo b sz h1) (fun o' sz' ob2 hne hS' h' => hne (hs.inj o' oo b sz' sz ob2 ob hS' hS h' h1)) h2 h3 (Nat.le_refl _) h4 (fun _ _ _ _ _ _ _ => rfl) h5, ?_, ?_⟩
  · rw [rd_own] at hr
    obtain ⟨b', sz', cap, cs', E', g1, g2⟩ := hr
    rw [h1] at g1
    simp at g1
    obtain ⟨rfl, rfl⟩ := g1
    exact rd_own.2 ⟨b, sz, cap, cs', E', hget, g2⟩
  · refine t0.ext rfl rfl rfl (Nat.le_refl _) (by simp) (fun _ _ _ => rfl) (fun _ h => .inl h) fun o' b' sz' ho' => ?_
    rw [List.getElem?_append] at ho'
    split at ho'
    · exact .inl ⟨o', sz', ho'⟩
    · simp only [List.getElem?_singleton] at ho'
      split at ho' <;> simp at ho'
      exact .inl ⟨oo, sz, by rw [← ho'.1]; exact h1⟩
theorem seen_refl {d : D} {S1 : Store} : Seen S d S1 d S1 := fun ρ I _ _ _ hs hr => ⟨ρ, I, hs, hr, Ext.refl _ _ _ _⟩
end post

theorem okX_appd {P : Program} {S : Store} {o : Oper} {E : Env} {c : D → Store → Prop} {T e : TypeId} {i : TypeInfo} {x y : Operand} {x' y' : Opd} {zero xs ys : List D} {oo : Nat} (hop : o.op = .call { callee := .builtin .append, args := #[x, y], argTypes := #[T, T] })
    (hT : P.underlying T = some (.slice e)) (hi : P.info? e = some i) (hz : zeroT P e = some zero) (hzl : zero.length = i.size) (hx : dOpd x = some x') (hy : dOpd y = some y')
    (hys : elemsOf S i.size (ev E y') = some ys) (hall : ys.all cellOK = true) (e1 : ev E x' = ownD oo xs) (hob : S[oo]? = some (obD e i.size xs)) (hb : (xs.length + ys.length) * i.bytes ≤ 140737488355328 ∧ xs.length + ys.length ≤ maxLen)
    (h : c (ownD S.length (xs ++ ys)) (S.set oo none ++ [obD e i.size (xs ++ ys)])) : OpX P o E S c := by
  have hlt : oo < S.length := (List.getElem?_eq_some_iff.1 hob).1
  cases xs with
  | nil =>
    have hS0 : S.set oo none = S := by
      apply List.ext_getElem?
      intro q
      rw [List.getElem?_set]
      split
      · rename_i e; subst e; first | (rw [hob]; rfl) | (rw [if_pos hlt, hob]; rfl)
      · rfl
    rw [hS0] at h
    simp only [List.nil_append] at h
    refine OpX.post (c0 := fun d S' => (ys = [] ∧ d = .nils ∧ S' = S) ∨ (ys ≠ [] ∧ d = .own S.length ys.length ∧ S' = S ++ [some ⟨e, i.size, ys⟩])) ?_ ?_
    · refine okS_app hop hT hi hz hzl hx hy hys hall ?_
      have e2 : ev E x' = .nils := e1
      rw [e2]
      exact ⟨fun e => .inl ⟨e, rfl, rfl⟩, fun hne => ⟨by simpa using hb.1, by simpa using hb.2, .inr ⟨hne, rfl, rfl⟩⟩⟩
    · rintro d S' (⟨rfl, rfl, rfl⟩ | ⟨hne, rfl, rfl⟩)
      · exact ⟨Nat.le_refl _, _, _, h, seen_pad⟩
      · rw [ownD_ne hne, obD_ne hne] at h
        exact ⟨by simp, _, _, h, seen_refl⟩
  | cons a r =>
    have hob' : S[oo]? = some (some ⟨e, i.size, a :: r⟩) := hob
    have hne : (a :: r) ++ ys ≠ [] := by simp
    rw [ownD_ne hne, obD_ne hne] at h
    simp only [List.length_append] at h
    refine OpX.post (c0 := fun d S' => (ys = [] ∧ d = .own oo (r.length + 1) ∧ S' = S) ∨ (ys ≠ [] ∧ d = .own S.length (r.length + 1 + ys.length) ∧ S' = S.set oo none ++ [some ⟨e, i.size, (a :: r) ++ ys⟩])) ?_ ?_
    · refine okS_app hop hT hi hz hzl hx hy hys hall ?_
      have e2 : ev E x' = .own oo (r.length + 1) := e1
      rw [e2]
      exact ⟨fun e => .inl ⟨e, rfl, rfl⟩, fun hne => ⟨_, hob', rfl, rfl, rfl, hb.1, hb.2, .inr ⟨hne, rfl, rfl⟩⟩⟩
    · rintro d S' (⟨rfl, rfl, rfl⟩ | ⟨hne, rfl, rfl⟩)
      · simp only [List.append_nil, List.length_nil, Nat.add_zero] at h
        exact ⟨Nat.le_refl _, _, _, h, seen_move hob'⟩
      · exact ⟨by simp, _, _, h, seen_refl⟩
theorem okX_app0 {P : Program} {S : Store} {o : Oper} {E : Env} {c : D → Store → Prop} {T e : TypeId} {i : TypeInfo} {x y : Operand} {x' y' : Opd} {zero ys : List D} (hop : o.op = .call { callee := .builtin .append, args := #[x, y], argTypes := #[T, T] })
    (hT : P.underlying T = some (.slice e)) (hi : P.info? e = some i) (hz : zeroT P e = some zero) (hzl : zero.length = i.size) (hx : dOpd x = some x') (hy : dOpd y = some y')
    (hys : elemsOf S i.size (ev E y') = some ys) (hall : ys.all cellOK = true) (e1 : ev E x' = .nils) (hb : ys.length * i.bytes ≤ 140737488355328 ∧ ys.length ≤ maxLen)
    (h : c (ownD S.length ys) (S ++ [obD e i.size ys])) : OpX P o E S c := by
  refine OpX.post (c0 := fun d S' => (ys = [] ∧ d = .nils ∧ S' = S) ∨ (ys ≠ [] ∧ d = .own S.length ys.length ∧ S' = S ++ [some ⟨e, i.size, ys⟩])) ?_ ?_
  · refine okS_app hop hT hi hz hzl hx hy hys hall ?_
    rw [e1]
    exact ⟨fun e => .inl ⟨e, rfl, rfl⟩, fun hne => ⟨hb.1, hb.2, .inr ⟨hne, rfl, rfl⟩⟩⟩
  · rintro d S' (⟨rfl, rfl, rfl⟩ | ⟨hne, rfl, rfl⟩)
    · exact ⟨Nat.le_refl _, _, _, h, seen_pad⟩
    · rw [ownD_ne hne, obD_ne hne] at h
      exact ⟨by simp, _, _, h, seen_refl⟩
theorem okX_lit {P : Program} {S : Store} {o : Oper} {E : Env} {c : D → Store → Prop} {T e : TypeId} {sz n : Nat} {parts : Array (Nat × Operand)} {parts' : List (Nat × Opd)} {zero : List D} {xs : List PV} (hop : o.op = .buildSlice T n parts)
    (hT : P.underlying T = some (.slice e)) (hs : szT P e = some sz) (hz : zeroT P e = some zero) (hp : litParts 0 parts.toList = some parts') (hn : parts.size = n) (hsz : sz ≠ 0) (h24 : n * sz ≤ 2 ^ 24) (h0 : n ≠ 0)
    (hxs : litD E sz n parts' = some xs) (h1 : ∀ x ∈ xs, x.nc = sz) (h2 : zero.length = sz) (h : c (.own S.length n) (S ++ [some ⟨e, sz, xs.map .pv⟩])) : OpX P o E S c := by
  intro ρ I w ac next Q hst he hnx
  obtain ⟨zv, hz1, hz2⟩ := run_zero hz
  have h24' : ¬ 2 ^ 24 < n * sz := by omega
  have hz0 : n * sz ≠ 0 := Nat.mul_ne_zero h0 hsz
  have hnm : n ≤ n * sz := Nat.le_mul_of_pos_right _ (Nat.pos_of_ne_zero hsz)
  obtain ⟨vs, e1, e2, e3, e4⟩ := lit_fill (ρ := ρ) (I := I) (w := w) (ac := ac) (sz := sz) (n := n) (k := 0) (cells := (Array.range (n * sz)).map (zv.cells[· % zv.cells.size]!)) hp hxs h1
    (by simp [hn]) (fun i x t hm hx => he t (slots_mem (by
      subst hx
      simp only [hop, Op.operands]
      exact (by simpa using ⟨i, by simpa using hm⟩))))
  have hlx : xs.length = n := by
    have : ∀ {ps : List (Nat × Opd)} {xs : List PV}, litD E sz n ps = some xs → xs.length = ps.length := fun {ps} => by
      induction ps with
      | nil => intro xs hh; simp [litD] at hh; subst hh; rfl
      | cons p ps ih => intro xs hh; obtain ⟨i, x⟩ := p; simp only [litD] at hh; split at hh <;> simp at hh; rename_i q qs _ hq; subst hh; simp [ih hq]
    have h5 : ∀ {k : Nat} {ps : List (Nat × Operand)} {qs : List (Nat × Opd)}, litParts k ps = some qs → qs.length = ps.length := fun {k ps} => by
      induction ps generalizing k with
      | nil => intro qs hh; simp [litParts] at hh; subst hh; rfl
      | cons p ps ih => intro qs hh; obtain ⟨i, x⟩ := p; simp only [litParts] at hh; split at hh <;> simp at hh; rename_i q qs' _ hq; obtain ⟨_, rfl⟩ := hh; simp [ih hq]
    rw [this hxs, h5 hp]; simpa using hn
  let cs : Array Value := (vs.flatten).toArray
  let ob : Ob := ⟨e, sz, xs.map .pv⟩
  have hvl : vs.length = n := by omega
  have hfl : vs.flatten.length = n * sz := by rw [flat_len e3, hvl]
  have hcs : cs.size = n * sz := by simp only [cs, List.size_toArray, hfl]
  have hh : (w.alloc (.cells cs e)).heap = w.heap.push (.cells cs ob.ty) := rfl
  refine wp_value (u := .slice (some ⟨w.heap.size, 0, none⟩) n n) (w' := w.alloc (.cells cs e)) ?_ (hnx _ _ _ _ _ _ h (push_st (ob := ob) hst hh (by simp [ob, hcs, hlx]) ?_) ?_ (push_ext (ob := ob) hst hh rfl rfl rfl))
  · simp only [Nat.zero_mul, List.take_zero, List.nil_append] at e1
    have e5 : (parts.map fun x => (x.1, ac.eval x.2)).toList = parts.toList.map fun p => (p.1, ac.eval p.2) := by simp
    simp only [execOp, hop, Instr.buildSlice, Sem.run_bind, run_underlying hT, run_sizeOf' hs, Result.andThen_ok, h24', if_false, gt_iff_lt, hz0, hz2, Sem.run_pure, e5, e1, newRow, run_newObj]
    rfl
  · intro q hq
    have hq' : q < vs.length := by rw [hvl]; simpa [ob, hlx] using hq
    have hqx : q < xs.length := by omega
    have e6 : (cs.toList.drop (q * sz)).take sz = vs[q] := flat_seg e3 q hq'
    show RDc ρ I w ((cs.toList.drop (q * sz)).take sz) (xs.map D.pv)[q]
    rw [e6]
    simp only [List.getElem_map]
    exact e4 q hq' hqx
  · refine rd_own.2 ⟨w.heap.size, sz, n, cs, e, push_ptr (ob := ob) hst, rfl, Nat.le_refl _, by unfold maxLen; omega, ?_, by rw [hcs]; exact Nat.le_refl _⟩
    show (w.heap.push _)[w.heap.size]? = _
    rw [Array.getElem?_push]; simp
theorem lit_fillA {E : Env} {ρ : Rho} {I : Nat → Prop} {w : World} {ac : Act} {sz n : Nat} : ∀ {parts : List (Nat × Operand)} {parts' : List (Nat × Opd)} {k : Nat} {cells : Array Value} {xs : List (List D)},
    litParts k parts = some parts' → litA E parts' = some xs → (∀ x ∈ xs, x.length = sz) → cells.size = (k + parts.length) * sz →
    (∀ i x t, (i, x) ∈ parts → x = .tmp t → RD ρ I w (ac.tmps.getD t Go.undef) (E t)) →
    ∃ vs : List (List Value), Instr.fill (fun i => some (i * sz, sz)) cells (parts.map fun p => (p.1, ac.eval p.2)) = some (cells.toList.take (k * sz) ++ vs.flatten).toArray ∧
      vs.length = xs.length ∧ (∀ i (h : i < vs.length), vs[i].length = sz) ∧ ∀ i (h : i < vs.length) (h' : i < xs.length), RDc ρ I w vs[i] (.agg xs[i])
  | [], parts', k, cells, xs, h, hd, hs, hc, _ => by
    simp [litParts] at h; subst h
    simp [litA] at hd; subst hd
    refine ⟨[], ?_, rfl, by simp, by simp⟩
    simp only [List.map_nil, Instr.fill, List.flatten_nil, List.append_nil]
    rw [List.take_of_length_le (by simp; simp at hc; omega)]
  | (i, x) :: parts, parts', k, cells, xs, h, hd, hs, hc, he => by
    simp only [litParts] at h
    split at h <;> simp at h
    rename_i y r h1 h2
    obtain ⟨rfl, rfl⟩ := h
    simp only [litA] at hd
    split at hd <;> simp at hd
    rename_i p ps h3 h4
    subst hd
    have g := dOpd_sound (ρ := ρ) (I := I) (w := w) (a := ac) (E := E) h1 fun t ht => he i x t (by simp) ht
    have g2 : RDc ρ I w (ac.eval x).cells.toList (.agg p) := by
      rw [h3] at g
      obtain ⟨us, hu, hu1, hu2⟩ := rd_dagg.1 g
      rw [hu]
      exact ⟨by simpa [Value.cells] using hu1, by simpa [Value.cells] using hu2⟩
    have hsz : (ac.eval x).cells.size = sz := by have := g2.1; rw [hs p (by simp)] at this; simpa using this
    have hmul : (i + (parts.length + 1)) * sz = i * sz + sz + parts.length * sz := by
      rw [Nat.add_mul, Nat.add_mul]; omega
    simp only [List.length_cons] at hc
    rw [hmul] at hc
    have hz : cells.size = i * sz + sz + parts.length * sz := hc
    obtain ⟨vs, e1, e2, e3, e4⟩ := lit_fillA (ac := ac) (sz := sz) (n := n) (cells := (cells.toList.take (i * sz) ++ (ac.eval x).cells.toList ++ cells.toList.drop (i * sz + sz)).toArray)
      h2 h4 (fun q hq => hs q (by simp [hq])) (by
        simp only [List.size_toArray, List.length_append, List.length_take, List.length_drop, Array.length_toList, hsz]
        rw [Nat.add_mul, Nat.add_mul]; omega) (fun i' x' t hm => he i' x' t (by simp [hm]))
    refine ⟨(ac.eval x).cells.toList :: vs, ?_, by simp [e2], ?_, ?_⟩
    · rw [List.map_cons, fill_step (off := i * sz) (sz := sz) rfl hsz (by omega), e1]
      congr 2
      simp only [List.flatten_cons, ← List.append_assoc]
      congr 1
      have hl : (cells.toList.take (i * sz)).length = i * sz := by simp; omega
      have hl2 : (cells.toList.take (i * sz) ++ (ac.eval x).cells.toList).length = (i + 1) * sz := by
        rw [List.length_append, hl, Nat.add_mul]; simp; omega
      rw [List.take_append_of_le_length (by omega), List.take_of_length_le (by omega)]
    · intro j hj
      cases j with
      | zero => simpa using hsz
      | succ j => exact e3 j (by simpa using hj)
    · intro j hj hj'
      cases j with
      | zero => exact g2
      | succ j => exact e4 j (by simpa using hj) (by simpa using hj')

theorem okX_litA {P : Program} {S : Store} {o : Oper} {E : Env} {c : D → Store → Prop} {T e : TypeId} {sz n : Nat} {parts : Array (Nat × Operand)} {parts' : List (Nat × Opd)} {zero : List D} {xs : List (List D)} (hop : o.op = .buildSlice T n parts)
    (hT : P.underlying T = some (.slice e)) (hs : szT P e = some sz) (hz : zeroT P e = some zero) (hp : litParts 0 parts.toList = some parts') (hn : parts.size = n) (hsz : sz ≠ 0) (h24 : n * sz ≤ 2 ^ 24) (h0 : n ≠ 0)
    (hxs : litA E parts' = some xs) (h1 : ∀ x ∈ xs, x.length = sz) (h2 : zero.length = sz) (h : c (.own S.length n) (S ++ [some ⟨e, sz, xs.map .agg⟩])) : OpX P o E S c := by
  intro ρ I w ac next Q hst he hnx
  obtain ⟨zv, hz1, hz2⟩ := run_zero hz
  have h24' : ¬ 2 ^ 24 < n * sz := by omega
  have hz0 : n * sz ≠ 0 := Nat.mul_ne_zero h0 hsz
  have hnm : n ≤ n * sz := Nat.le_mul_of_pos_right _ (Nat.pos_of_ne_zero hsz)
  obtain ⟨vs, e1, e2, e3, e4⟩ := lit_fillA (ρ := ρ) (I := I) (w := w) (ac := ac) (sz := sz) (n := n) (k := 0) (cells := (Array.range (n * sz)).map (zv.cells[· % zv.cells.size]!)) hp hxs h1
    (by simp [hn]) (fun i x t hm hx => he t (slots_mem (by
      subst hx
      simp only [hop, Op.operands]
      exact (by simpa using ⟨i, by simpa using hm⟩))))
  have hlx : xs.length = n := by
    have : ∀ {ps : List (Nat × Opd)} {xs : List (List D)}, litA E ps = some xs → xs.length = ps.length := fun {ps} => by
      induction ps with
      | nil => intro xs hh; simp [litA] at hh; subst hh; rfl
      | cons p ps ih => intro xs hh; obtain ⟨i, x⟩ := p; simp only [litA] at hh; split at hh <;> simp at hh; rename_i q qs _ hq; subst hh; simp [ih hq]
    have h5 : ∀ {k : Nat} {ps : List (Nat × Operand)} {qs : List (Nat × Opd)}, litParts k ps = some qs → qs.length = ps.length := fun {k ps} => by
      induction ps generalizing k with
      | nil => intro qs hh; simp [litParts] at hh; subst hh; rfl
      | cons p ps ih => intro qs hh; obtain ⟨i, x⟩ := p; simp only [litParts] at hh; split at hh <;> simp at hh; rename_i q qs' _ hq; obtain ⟨_, rfl⟩ := hh; simp [ih hq]
    rw [this hxs, h5 hp]; simpa using hn
  let cs : Array Value := (vs.flatten).toArray
  let ob : Ob := ⟨e, sz, xs.map .agg⟩
  have hvl : vs.length = n := by omega
  have hfl : vs.flatten.length = n * sz := by rw [flat_len e3, hvl]
  have hcs : cs.size = n * sz := by simp only [cs, List.size_toArray, hfl]
  have hh : (w.alloc (.cells cs e)).heap = w.heap.push (.cells cs ob.ty) := rfl
  refine wp_value (u := .slice (some ⟨w.heap.size, 0, none⟩) n n) (w' := w.alloc (.cells cs e)) ?_ (hnx _ _ _ _ _ _ h (push_st (ob := ob) hst hh (by simp [ob, hcs, hlx]) ?_) ?_ (push_ext (ob := ob) hst hh rfl rfl rfl))
  · simp only [Nat.zero_mul, List.take_zero, List.nil_append] at e1
    have e5 : (parts.map fun x => (x.1, ac.eval x.2)).toList = parts.toList.map fun p => (p.1, ac.eval p.2) := by simp
    simp only [execOp, hop, Instr.buildSlice, Sem.run_bind, run_underlying hT, run_sizeOf' hs, Result.andThen_ok, h24', if_false, gt_iff_lt, hz0, hz2, Sem.run_pure, e5, e1, newRow, run_newObj]
    rfl
  · intro q hq
    have hq' : q < vs.length := by rw [hvl]; simpa [ob, hlx] using hq
    have hqx : q < xs.length := by omega
    have e6 : (cs.toList.drop (q * sz)).take sz = vs[q] := flat_seg e3 q hq'
    show RDc ρ I w ((cs.toList.drop (q * sz)).take sz) (xs.map D.agg)[q]
    rw [e6]
    simp only [List.getElem_map]
    exact e4 q hq' hqx
  · refine rd_own.2 ⟨w.heap.size, sz, n, cs, e, push_ptr (ob := ob) hst, rfl, Nat.le_refl _, by unfold maxLen; omega, ?_, by rw [hcs]; exact Nat.le_refl _⟩
    show (w.heap.push _)[w.heap.size]? = _
    rw [Array.getElem?_push]; simp
end Go.V
