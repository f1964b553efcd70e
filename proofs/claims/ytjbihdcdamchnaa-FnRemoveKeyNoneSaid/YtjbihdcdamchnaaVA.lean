/- A part of the proofs about laws of the page tree (see the text that bears the law): a small language of steps, its rules, and what the functions of the program return. -/
import Derived.Deep.Quiet
import Derived.Laws.Sem
import Derived.Laws.World
import GoSem.ClaimData
set_option linter.all false
set_option linter.unusedVariables false
set_option linter.unusedSimpArgs false
namespace Go.V

/-- A pure value: slices are lists that never change. -/
inductive PV where
  | int (k : IntKind) (n : Int)
  | bool (b : Bool)
  | sl (xs : List PV)
  | agg (cs : List PV)
  | con (p : PV)
  | nilp
  | clo (f : FuncId) (caps : List PV)
  | tup (ps : List PV)
  deriving Inhabited

def isAggP : PV → Bool
  | .agg _ => true
  | _ => false

def PV.nc : PV → Nat
  | .agg cs => cs.length
  | _ => 1

/-- What a slot holds. -/
inductive D where
  | pv (p : PV)
  | nils
  | ptr (o i j : Nat)
  | own (o n : Nat)
  | sub (o off n cap : Nat)
  | clo (f : FuncId) (caps : List D)
  | agg (cs : List D)
  | tup (ds : List D)
  | undef
  | any
  deriving Inhabited

def CellsAt (w : World) (b o : Nat) (vs : List Value) : Prop := ∀ j (h : j < vs.length), w.cell? ⟨b, o + j, none⟩ = some vs[j]

inductive RC (I : Nat → Prop) (w : World) : List Value → PV → Prop
  | int (k : IntKind) (n : Int) : RC I w [.int k n] (.int k n)
  | bool (b : Bool) : RC I w [.bool b] (.bool b)
  | sl0 (a : Option Addr) (cap : Nat) (h : cap ≤ maxLen) : RC I w [.slice a 0 cap] (.sl [])
  | sl (xs : List PV) (b off cap sz n : Nat) (vs : Nat → List Value) (hn : n = xs.length) (h1 : n ≤ cap) (h2 : cap ≤ maxLen) (h3 : I b)
      (h4 : ∀ i, i < xs.length → (vs i).length = sz) (h5 : ∀ i, i < xs.length → CellsAt w b (off + i * sz) (vs i))
      (h6 : ∀ i (h : i < xs.length), RC I w (vs i) xs[i]) : RC I w [.slice (some ⟨b, off, none⟩) n cap] (.sl xs)
  | agg (vs : List Value) (cs : List PV) (h1 : vs.length = cs.length)
      (h2 : ∀ i (h : i < vs.length) (h' : i < cs.length), RC I w [vs[i]] cs[i]) : RC I w vs (.agg cs)
  | con (b off : Nat) (vs : List Value) (p : PV) (h1 : I b) (h2 : CellsAt w b off vs) (h3 : RC I w vs p) : RC I w [.pointer (some ⟨b, off, none⟩)] (.con p)
  | nilp : RC I w [.pointer none] .nilp
  | clo (f : FuncId) (vs : List Value) (caps : List PV) (h1 : vs.length = caps.length)
      (h2 : ∀ i (h : i < vs.length) (h' : i < caps.length), RC I w [vs[i]] caps[i]) (h3 : ∀ p ∈ caps, isAggP p = false) : RC I w [.func (.func f) #[] vs.toArray] (.clo f caps)

/-- All that was there is as it was. -/
structure Grow (I : Nat → Prop) (w : World) (I' : Nat → Prop) (w' : World) : Prop where
  os : w'.os = w.os
  tape : w'.tape = w.tape
  output : w'.output = w.output
  size : w.heap.size ≤ w'.heap.size
  block : ∀ k, k < w.heap.size → w'.heap[k]? = w.heap[k]?
  imono : ∀ b, I b → I' b
  inew : ∀ b, I' b → I b ∨ (w.heap.size ≤ b ∧ b < w'.heap.size)

theorem Grow.refl (I : Nat → Prop) (w : World) : Grow I w I w := ⟨rfl, rfl, rfl, Nat.le_refl _, fun _ _ => rfl, fun _ h => h, fun _ h => .inl h⟩
theorem Grow.trans {I I' I'' : Nat → Prop} {w w' w'' : World} (h : Grow I w I' w') (k : Grow I' w' I'' w'') : Grow I w I'' w'' :=
  ⟨k.os.trans h.os, k.tape.trans h.tape, k.output.trans h.output, Nat.le_trans h.size k.size,
   fun i hi => (k.block i (Nat.lt_of_lt_of_le hi h.size)).trans (h.block i hi), fun b hb => k.imono b (h.imono b hb),
   fun b hb => by
    rcases k.inew b hb with hb | ⟨h1, h2⟩
    · rcases h.inew b hb with hb | ⟨h1, h2⟩
      · exact .inl hb
      · exact .inr ⟨h1, Nat.lt_of_lt_of_le h2 k.size⟩
    · exact .inr ⟨Nat.le_trans h.size h1, h2⟩⟩

theorem cell?_of_block {w w' : World} {a : Addr} (h : w'.heap[a.block]? = w.heap[a.block]?) : w'.cell? a = w.cell? a := by
  unfold World.cell?; rw [h]

theorem CellsAt.of_block {w w' : World} {b o : Nat} {vs : List Value} (h : CellsAt w b o vs) (hb : w'.heap[b]? = w.heap[b]?) : CellsAt w' b o vs :=
  fun j hj => (cell?_of_block (w := w) (a := ⟨b, o + j, none⟩) hb).trans (h j hj)

theorem RC.mono {I I' : Nat → Prop} {w w' : World} (hI : ∀ b, I b → I' b) (hb : ∀ b, I b → w'.heap[b]? = w.heap[b]?) {vs : List Value} {p : PV}
    (h : RC I w vs p) : RC I' w' vs p := by
  induction h with
  | int k n => exact .int k n
  | bool b => exact .bool b
  | sl0 a cap h => exact .sl0 a cap h
  | sl xs b off cap sz n vs hn h1 h2 h3 h4 h5 h6 ih => exact .sl xs b off cap sz n vs hn h1 h2 (hI _ h3) h4 (fun i hi => (h5 i hi).of_block (hb _ h3)) ih
  | agg vs cs h1 h2 ih => exact .agg vs cs h1 ih
  | con b off vs p h1 h2 h3 ih => exact .con b off vs p (hI _ h1) (h2.of_block (hb _ h1)) ih
  | nilp => exact .nilp
  | clo f vs caps h1 h2 h3 ih => exact .clo f vs caps h1 ih h3

theorem RC.len {I : Nat → Prop} {w : World} {vs : List Value} {p : PV} (h : RC I w vs p) : vs.length = p.nc := by
  cases h <;> simp_all [PV.nc]

/-- an own object: its element type, cells an element, elements -/
structure Ob where
  ty : TypeId
  sz : Nat
  xs : List D

abbrev Rho := List (Option (Nat × Nat))
abbrev Store := List (Option Ob)

def R0 (ρ : Rho) (I : Nat → Prop) (w : World) (v : Value) : D → Prop
  | .pv p => RC I w [v] p
  | .nils => ∃ a : Option Addr, v = .slice a 0 0
  | .ptr o i j => ∃ b sz, ρ[o]? = some (some (b, sz)) ∧ v = .pointer (some ⟨b, i * sz + j, none⟩)
  | .own o n => ∃ b sz cap cs E, ρ[o]? = some (some (b, sz)) ∧ v = .slice (some ⟨b, 0, none⟩) n cap ∧ n ≤ cap ∧ cap ≤ maxLen ∧
      w.heap[b]? = some (.cells cs E (0, 0)) ∧ cap * sz ≤ cs.size
  | .sub o off n cap => ∃ b sz cs E, ρ[o]? = some (some (b, sz)) ∧ v = .slice (some ⟨b, off * sz, none⟩) n cap ∧ n ≤ cap ∧ cap ≤ maxLen ∧
      w.heap[b]? = some (.cells cs E (0, 0)) ∧ (off + cap) * sz ≤ cs.size
  | .undef => v = Go.undef
  | .any => True
  | _ => False
def R1 (ρ : Rho) (I : Nat → Prop) (w : World) (v : Value) : D → Prop
  | .clo f caps => ∃ vs : List Value, v = .func (.func f) #[] vs.toArray ∧ vs.length = caps.length ∧ ∀ i (h : i < vs.length) (h' : i < caps.length), R0 ρ I w vs[i] caps[i]
  | d => R0 ρ I w v d
def RS (ρ : Rho) (I : Nat → Prop) (w : World) (v : Value) : D → Prop
  | .agg cs => ∃ vs : List Value, v = .agg vs.toArray ∧ vs.length = cs.length ∧ ∀ i (h : i < vs.length) (h' : i < cs.length), R1 ρ I w vs[i] cs[i]
  | .pv (.agg ps) => ∃ vs : List Value, v = .agg vs.toArray ∧ RC I w vs (.agg ps)
  | d => R1 ρ I w v d
def RD (ρ : Rho) (I : Nat → Prop) (w : World) (v : Value) : D → Prop
  | .tup ds => ∃ vs : List Value, v = .tuple vs.toArray ∧ vs.length = ds.length ∧ ∀ i (h : i < vs.length) (h' : i < ds.length), RS ρ I w vs[i] ds[i]
  | d => RS ρ I w v d
/-- cells that read so -/
def RDc (ρ : Rho) (I : Nat → Prop) (w : World) (vs : List Value) : D → Prop
  | .agg cs => vs.length = cs.length ∧ ∀ i (h : i < vs.length) (h' : i < cs.length), R1 ρ I w vs[i] cs[i]
  | .pv p => RC I w vs p
  | d => ∃ v, vs = [v] ∧ R1 ρ I w v d

section mono
variable {ρ : Rho} {I I' : Nat → Prop} {w w' : World}
/-- blocks that matter to what is kept -/
def Keeps (ρ : Rho) (I : Nat → Prop) (w w' : World) : Prop :=
  (∀ b, I b → w'.heap[b]? = w.heap[b]?) ∧
  ∀ (o b sz : Nat), ρ[o]? = some (some (b, sz)) → ∀ (cs : Array Value) (E : TypeId), w.heap[b]? = some (Obj.cells cs E (0, 0)) → ∃ cs' : Array Value, w'.heap[b]? = some (Obj.cells cs' E (0, 0)) ∧ cs'.size = cs.size
variable (hI : ∀ b, I b → I' b) (hk : Keeps ρ I w w')
include hI hk
theorem R0.mono {v : Value} {d : D} (h : R0 ρ I w v d) : R0 ρ I' w' v d := by
  cases d with
  | pv p => exact RC.mono hI hk.1 h
  | own o n =>
    obtain ⟨b, sz, cap, cs, E, h1, h2, h3, h4, h5, h6⟩ := h
    obtain ⟨cs', h7, h8⟩ := hk.2 o b sz h1 cs E h5
    exact ⟨b, sz, cap, cs', E, h1, h2, h3, h4, h7, by rw [h8]; exact h6⟩
  | sub o off n cap =>
    obtain ⟨b, sz, cs, E, h1, h2, h3, h4, h5, h6⟩ := h
    obtain ⟨cs', h7, h8⟩ := hk.2 o b sz h1 cs E h5
    exact ⟨b, sz, cs', E, h1, h2, h3, h4, h7, by rw [h8]; exact h6⟩
  | _ => exact h
theorem R1.mono {v : Value} {d : D} (h : R1 ρ I w v d) : R1 ρ I' w' v d := by
  cases d with
  | clo f caps => obtain ⟨vs, h1, h2, h3⟩ := h; exact ⟨vs, h1, h2, fun i h h' => R0.mono hI hk (h3 i h h')⟩
  | _ => simp only [R1] at h ⊢; exact R0.mono hI hk h
theorem RS.mono {v : Value} {d : D} (h : RS ρ I w v d) : RS ρ I' w' v d := by
  cases d with
  | agg cs => obtain ⟨vs, h1, h2, h3⟩ := h; exact ⟨vs, h1, h2, fun i h h' => R1.mono hI hk (h3 i h h')⟩
  | pv p =>
    cases p with
    | agg ps => obtain ⟨vs, h1, h2⟩ := h; exact ⟨vs, h1, RC.mono hI hk.1 h2⟩
    | _ => simp only [RS] at h ⊢; exact R1.mono hI hk h
  | _ => simp only [RS] at h ⊢; exact R1.mono hI hk h
theorem RD.mono {v : Value} {d : D} (h : RD ρ I w v d) : RD ρ I' w' v d := by
  cases d with
  | tup ds => obtain ⟨vs, h1, h2, h3⟩ := h; exact ⟨vs, h1, h2, fun i h h' => RS.mono hI hk (h3 i h h')⟩
  | _ => simp only [RD] at h ⊢; exact RS.mono hI hk h
theorem RDc.mono {vs : List Value} {d : D} (h : RDc ρ I w vs d) : RDc ρ I' w' vs d := by
  cases d with
  | agg cs => exact ⟨h.1, fun i h1 h2 => R1.mono hI hk (h.2 i h1 h2)⟩
  | pv p => exact RC.mono hI hk.1 h
  | _ => obtain ⟨v, h1, h2⟩ := h; exact ⟨v, h1, R1.mono hI hk h2⟩
end mono

def ObOK (ρ : Rho) (I : Nat → Prop) (w : World) (b sz : Nat) (ob : Ob) : Prop :=
  sz = ob.sz ∧ ∃ cs : Array Value, w.heap[b]? = some (.cells cs ob.ty (0, 0)) ∧ ob.xs.length * sz ≤ cs.size ∧
    ∀ i (h : i < ob.xs.length), RDc ρ I w ((cs.toList.drop (i * sz)).take sz) ob.xs[i]

/-- what reading asks -/
structure StR (ρ : Rho) (I : Nat → Prop) (w : World) (S : Store) : Prop where
  old : ∀ b, I b → b < w.heap.size
  obs : ∀ (o : Nat) (ob : Ob), S[o]? = some (some ob) → ∃ b sz, ρ[o]? = some (some (b, sz)) ∧ ObOK ρ I w b sz ob

structure St (ρ : Rho) (I : Nat → Prop) (w : World) (S : Store) : Prop extends StR ρ I w S where
  len : ρ.length = S.length
  lt : ∀ (o b sz : Nat), ρ[o]? = some (some (b, sz)) → b < w.heap.size
  apart : ∀ (o b sz : Nat) (ob : Ob), S[o]? = some (some ob) → ρ[o]? = some (some (b, sz)) → ¬ I b
  inj : ∀ (o o' b sz sz' : Nat) (ob ob' : Ob), S[o]? = some (some ob) → S[o']? = some (some ob') → ρ[o]? = some (some (b, sz)) → ρ[o']? = some (some (b, sz')) → o = o'

theorem Grow.keeps {ρ : Rho} {I I' : Nat → Prop} {w w' : World} (h : Grow I w I' w') (hold : ∀ b, I b → b < w.heap.size)
    (hap : ∀ (o b sz : Nat), ρ[o]? = some (some (b, sz)) → b < w.heap.size) : Keeps ρ I w w' :=
  ⟨fun b hb => h.block b (hold b hb), fun o b sz ho cs E hc => ⟨cs, by rw [h.block b (hap o b sz ho)]; exact hc, rfl⟩⟩

theorem St.keeps {ρ : Rho} {I I' : Nat → Prop} {w w' : World} {S : Store} (hs : St ρ I w S) (h : Grow I w I' w') : Keeps ρ I w w' :=
  h.keeps hs.old hs.lt

theorem St.grow {ρ : Rho} {I I' : Nat → Prop} {w w' : World} {S : Store} (hs : St ρ I w S) (h : Grow I w I' w') : St ρ I' w' S where
  len := hs.len
  old := fun b hb => by
    rcases h.inew b hb with hb | hb
    · exact Nat.lt_of_lt_of_le (hs.old b hb) h.size
    · exact hb.2
  obs := fun o ob ho => by
    obtain ⟨b, sz, h1, h2, cs, h3, h4, h5⟩ := hs.obs o ob ho
    exact ⟨b, sz, h1, h2, cs, by rw [h.block b (hs.lt o b sz h1)]; exact h3, h4, fun i hi => RDc.mono h.imono (hs.keeps h) (h5 i hi)⟩
  lt := fun o b sz ho => Nat.lt_of_lt_of_le (hs.lt o b sz ho) h.size
  apart := fun o b sz ob hS ho hb => by
    rcases h.inew b hb with hb | hb
    · exact hs.apart o b sz ob hS ho hb
    · have := hs.lt o b sz ho; omega
  inj := hs.inj

end Go.V
