/- A part of the proofs about laws of the page tree (see the text that bears the law): a small language of steps, its rules, and what the functions of the program return. -/
import Derived.Deep.Quiet
import Derived.Laws.Sem
import Derived.Laws.World
import GoSem.ClaimData
import Derived.Laws.Entries
import Derived.ChangeKeysEq
import Derived.Laws.Wrap64
import Derived.Laws.StructEq
set_option linter.all false
set_option linter.unusedVariables false
set_option linter.unusedSimpArgs false
namespace Go.V

inductive PV where
  | int (k : IntKind) (n : Int)
  | bool (b : Bool)
  | sl (xs : List PV)
  | agg (cs : List PV)
  | con (p : PV)
  | nilp
  | clo (f : FuncId) (caps : List PV)
  | tup (ps : List PV)
  deriving Inhabited

def isAggP : PV → Bool
  | .agg _ => true
  | _ => false

def PV.nc : PV → Nat
  | .agg cs => cs.length
  | _ => 1

inductive D where
  | pv (p : PV)
  | nils
  | ptr (o i j : Nat)
  | own (o n : Nat)
  | sub (o off n cap : Nat)
  | clo (f : FuncId) (caps : List D)
  | agg (cs : List D)
  | tup (ds : List D)
  | undef
  | any
  deriving Inhabited

def CellsAt (w : World) (b o : Nat) (vs : List Value) : Prop := ∀ j (h : j < vs.length), w.cell? ⟨b, o + j, none⟩ = some vs[j]

inductive RC (I : Nat → Prop) (w : World) : List Value → PV → Prop
  | int (k : IntKind) (n : Int) : RC I w [.int k n] (.int k n)
  | bool (b : Bool) : RC I w [.bool b] (.bool b)
  | sl0 (a : Option Addr) (cap : Nat) (h : cap ≤ maxLen) : RC I w [.slice a 0 cap] (.sl [])
  | sl (xs : List PV) (b off cap sz n : Nat) (vs : Nat → List Value) (hn : n = xs.length) (h1 : n ≤ cap) (h2 : cap ≤ maxLen) (h3 : I b)
      (h4 : ∀ i, i < xs.length → (vs i).length = sz) (h5 : ∀ i, i < xs.length → CellsAt w b (off + i * sz) (vs i))
      (h6 : ∀ i (h : i < xs.length), RC I w (vs i) xs[i]) : RC I w [.slice (some ⟨b, off, none⟩) n cap] (.sl xs)
  | agg (vs : List Value) (cs : List PV) (h1 : vs.length = cs.length)
      (h2 : ∀ i (h : i < vs.length) (h' : i < cs.length), RC I w [vs[i]] cs[i]) : RC I w vs (.agg cs)
  | con (b off : Nat) (vs : List Value) (p : PV) (h1 : I b) (h2 : CellsAt w b off vs) (h3 : RC I w vs p) : RC I w [.pointer (some ⟨b, off, none⟩)] (.con p)
  | nilp : RC I w [.pointer none] .nilp
  | clo (f : FuncId) (vs : List Value) (caps : List PV) (h1 : vs.length = caps.length)
      (h2 : ∀ i (h : i < vs.length) (h' : i < caps.length), RC I w [vs[i]] caps[i]) (h3 : ∀ p ∈ caps, isAggP p = false) : RC I w [.func (.func f) #[] vs.toArray] (.clo f caps)

structure Grow (I : Nat → Prop) (w : World) (I' : Nat → Prop) (w' : World) : Prop where
  os : w'.os = w.os
  tape : w'.tape = w.tape
  output : w'.output = w.output
  size : w.heap.size ≤ w'.heap.size
  block : ∀ k, k < w.heap.size → w'.heap[k]? = w.heap[k]?
  imono : ∀ b, I b → I' b
  inew : ∀ b, I' b → I b ∨ (w.heap.size ≤ b ∧ b < w'.heap.size)

theorem Grow.refl (I : Nat → Prop) (w : World) : Grow I w I w := ⟨rfl, rfl, rfl, Nat.le_refl _, fun _ _ => rfl, fun _ h => h, fun _ h => .inl h⟩
theorem Grow.trans {I I' I'' : Nat → Prop} {w w' w'' : World} (h : Grow I w I' w') (k : Grow I' w' I'' w'') : Grow I w I'' w'' :=
  ⟨k.os.trans h.os, k.tape.trans h.tape, k.output.trans h.output, Nat.le_trans h.size k.size,
   fun i hi => (k.block i (Nat.lt_of_lt_of_le hi h.size)).trans (h.block i hi), fun b hb => k.imono b (h.imono b hb),
   fun b hb => by
    rcases k.inew b hb with hb | ⟨h1, h2⟩
    · rcases h.inew b hb with hb | ⟨h1, h2⟩
      · exact .inl hb
      · exact .inr ⟨h1, Nat.lt_of_lt_of_le h2 k.size⟩
    · exact .inr ⟨Nat.le_trans h.size h1, h2⟩⟩

theorem cell?_of_block {w w' : World} {a : Addr} (h : w'.heap[a.block]? = w.heap[a.block]?) : w'.cell? a = w.cell? a := by
  unfold World.cell?; rw [h]

theorem CellsAt.of_block {w w' : World} {b o : Nat} {vs : List Value} (h : CellsAt w b o vs) (hb : w'.heap[b]? = w.heap[b]?) : CellsAt w' b o vs :=
  fun j hj => (cell?_of_block (w := w) (a := ⟨b, o + j, none⟩) hb).trans (h j hj)

theorem RC.mono {I I' : Nat → Prop} {w w' : World} (hI : ∀ b, I b → I' b) (hb : ∀ b, I b → w'.heap[b]? = w.heap[b]?) {vs : List Value} {p : PV}
    (h : RC I w vs p) : RC I' w' vs p := by
  induction h with
  | int k n => exact .int k n
  | bool b => exact .bool b
  | sl0 a cap h => exact .sl0 a cap h
  | sl xs b off cap sz n vs hn h1 h2 h3 h4 h5 h6 ih => exact .sl xs b off cap sz n vs hn h1 h2 (hI _ h3) h4 (fun i hi => (h5 i hi).of_block (hb _ h3)) ih
  | agg vs cs h1 h2 ih => exact .agg vs cs h1 ih
  | con b off vs p h1 h2 h3 ih => exact .con b off vs p (hI _ h1) (h2.of_block (hb _ h1)) ih
  | nilp => exact .nilp
  | clo f vs caps h1 h2 h3 ih => exact .clo f vs caps h1 ih h3

theorem RC.len {I : Nat → Prop} {w : World} {vs : List Value} {p : PV} (h : RC I w vs p) : vs.length = p.nc := by
  cases h <;> simp_all [PV.nc]

structure Ob where
  ty : TypeId
  sz : Nat
  xs : List D

abbrev Rho := List (Option (Nat × Nat))
abbrev Store := List (Option Ob)

def R0 (ρ : Rho) (I : Nat → Prop) (w : World) (v : Value) : D → Prop
  | .pv p => RC I w [v] p
  | .nils => ∃ a : Option Addr, v = .slice a 0 0
  | .ptr o i j => ∃ b sz, ρ[o]? = some (some (b, sz)) ∧ v = .pointer (some ⟨b, i * sz + j, none⟩)
  | .own o n => ∃ b sz cap cs E, ρ[o]? = some (some (b, sz)) ∧ v = .slice (some ⟨b, 0, none⟩) n cap ∧ n ≤ cap ∧ cap ≤ maxLen ∧
      w.heap[b]? = some (.cells cs E (0, 0)) ∧ cap * sz ≤ cs.size
  | .sub o off n cap => ∃ b sz cs E, ρ[o]? = some (some (b, sz)) ∧ v = .slice (some ⟨b, off * sz, none⟩) n cap ∧ n ≤ cap ∧ cap ≤ maxLen ∧
      w.heap[b]? = some (.cells cs E (0, 0)) ∧ (off + cap) * sz ≤ cs.size
  | .undef => v = Go.undef
  | .any => True
  | _ => False
def R1 (ρ : Rho) (I : Nat → Prop) (w : World) (v : Value) : D → Prop
  | .clo f caps => ∃ vs : List Value, v = .func (.func f) #[] vs.toArray ∧ vs.length = caps.length ∧ ∀ i (h : i < vs.length) (h' : i < caps.length), R0 ρ I w vs[i] caps[i]
  | d => R0 ρ I w v d
def RS (ρ : Rho) (I : Nat → Prop) (w : World) (v : Value) : D → Prop
  | .agg cs => ∃ vs : List Value, v = .agg vs.toArray ∧ vs.length = cs.length ∧ ∀ i (h : i < vs.length) (h' : i < cs.length), R1 ρ I w vs[i] cs[i]
  | .pv (.agg ps) => ∃ vs : List Value, v = .agg vs.toArray ∧ RC I w vs (.agg ps)
  | d => R1 ρ I w v d
def RD (ρ : Rho) (I : Nat → Prop) (w : World) (v : Value) : D → Prop
  | .tup ds => ∃ vs : List Value, v = .tuple vs.toArray ∧ vs.length = ds.length ∧ ∀ i (h : i < vs.length) (h' : i < ds.length), RS ρ I w vs[i] ds[i]
  | d => RS ρ I w v d
def RDc (ρ : Rho) (I : Nat → Prop) (w : World) (vs : List Value) : D → Prop
  | .agg cs => vs.length = cs.length ∧ ∀ i (h : i < vs.length) (h' : i < cs.length), R1 ρ I w vs[i] cs[i]
  | .pv p => RC I w vs p
  | d => ∃ v, vs = [v] ∧ R1 ρ I w v d

section mono
variable {ρ : Rho} {I I' : Nat → Prop} {w w' : World}
def Keeps (ρ : Rho) (I : Nat → Prop) (w w' : World) : Prop :=
  (∀ b, I b → w'.heap[b]? = w.heap[b]?) ∧
  ∀ (o b sz : Nat), ρ[o]? = some (some (b, sz)) → ∀ (cs : Array Value) (E : TypeId), w.heap[b]? = some (Obj.cells cs E (0, 0)) → ∃ cs' : Array Value, w'.heap[b]? = some (Obj.cells cs' E (0, 0)) ∧ cs'.size = cs.size
variable (hI : ∀ b, I b → I' b) (hk : Keeps ρ I w w')
include hI hk
theorem R0.mono {v : Value} {d : D} (h : R0 ρ I w v d) : R0 ρ I' w' v d := by
  cases d with
  | pv p => exact RC.mono hI hk.1 h
  | own o n =>
    obtain ⟨b, sz, cap, cs, E, h1, h2, h3, h4, h5, h6⟩ := h
    obtain ⟨cs', h7, h8⟩ := hk.2 o b sz h1 cs E h5
    exact ⟨b, sz, cap, cs', E, h1, h2, h3, h4, h7, by rw [h8]; exact h6⟩
  | sub o off n cap =>
    obtain ⟨b, sz, cs, E, h1, h2, h3, h4, h5, h6⟩ := h
    obtain ⟨cs', h7, h8⟩ := hk.2 o b sz h1 cs E h5
    exact ⟨b, sz, cs', E, h1, h2, h3, h4, h7, by rw [h8]; exact h6⟩
  | _ => exact h
theorem R1.mono {v : Value} {d : D} (h : R1 ρ I w v d) : R1 ρ I' w' v d := by
  cases d with
  | clo f caps => obtain ⟨vs, h1, h2, h3⟩ := h; exact ⟨vs, h1, h2, fun i h h' => R0.mono hI hk (h3 i h h')⟩
  | _ => simp only [R1] at h ⊢; exact R0.mono hI hk h
theorem RS.mono {v : Value} {d : D} (h : RS ρ I w v d) : RS ρ I' w' v d := by
  cases d with
  | agg cs => obtain ⟨vs, h1, h2, h3⟩ := h; exact ⟨vs, h1, h2, fun i h h' => R1.mono hI hk (h3 i h h')⟩
  | pv p =>
    cases p with
    | agg ps => obtain ⟨vs, h1, h2⟩ := h; exact ⟨vs, h1, RC.mono hI hk.1 h2⟩
    | _ => simp only [RS] at h ⊢; exact R1.mono hI hk h
  | _ => simp only [RS] at h ⊢; exact R1.mono hI hk h
theorem RD.mono {v : Value} {d : D} (h : RD ρ I w v d) : RD ρ I' w' v d := by
  cases d with
  | tup ds => obtain ⟨vs, h1, h2, h3⟩ := h; exact ⟨vs, h1, h2, fun i h h' => RS.mono hI hk (h3 i h h')⟩
  | _ => simp only [RD] at h ⊢; exact RS.mono hI hk h
theorem RDc.mono {vs : List Value} {d : D} (h : RDc ρ I w vs d) : RDc ρ I' w' vs d := by
  cases d with
  | agg cs => exact ⟨h.1, fun i h1 h2 => R1.mono hI hk (h.2 i h1 h2)⟩
  | pv p => exact RC.mono hI hk.1 h
  | _ => obtain ⟨v, h1, h2⟩ := h; exact ⟨v, h1, R1.mono hI hk h2⟩
end mono

def ObOK (ρ : Rho) (I : Nat → Prop) (w : World) (b sz : Nat) (ob : Ob) : Prop :=
  sz = ob.sz ∧ ∃ cs : Array Value, w.heap[b]? = some (.cells cs ob.ty (0, 0)) ∧ ob.xs.length * sz ≤ cs.size ∧
    ∀ i (h : i < ob.xs.length), RDc ρ I w ((cs.toList.drop (i * sz)).take sz) ob.xs[i]

structure StR (ρ : Rho) (I : Nat → Prop) (w : World) (S : Store) : Prop where
  old : ∀ b, I b → b < w.heap.size
  obs : ∀ (o : Nat) (ob : Ob), S[o]? = some (some ob) → ∃ b sz, ρ[o]? = some (some (b, sz)) ∧ ObOK ρ I w b sz ob

structure St (ρ : Rho) (I : Nat → Prop) (w : World) (S : Store) : Prop extends StR ρ I w S where
  len : ρ.length = S.length
  lt : ∀ (o b sz : Nat), ρ[o]? = some (some (b, sz)) → b < w.heap.size
  apart : ∀ (o b sz : Nat) (ob : Ob), S[o]? = some (some ob) → ρ[o]? = some (some (b, sz)) → ¬ I b
  inj : ∀ (o o' b sz sz' : Nat) (ob ob' : Ob), S[o]? = some (some ob) → S[o']? = some (some ob') → ρ[o]? = some (some (b, sz)) → ρ[o']? = some (some (b, sz')) → o = o'

theorem Grow.keeps {ρ : Rho} {I I' : Nat → Prop} {w w' : World} (h : Grow I w I' w') (hold : ∀ b, I b → b < w.heap.size)
    (hap : ∀ (o b sz : Nat), ρ[o]? = some (some (b, sz)) → b < w.heap.size) : Keeps ρ I w w' :=
  ⟨fun b hb => h.block b (hold b hb), fun o b sz ho cs E hc => ⟨cs, by rw [h.block b (hap o b sz ho)]; exact hc, rfl⟩⟩

theorem St.keeps {ρ : Rho} {I I' : Nat → Prop} {w w' : World} {S : Store} (hs : St ρ I w S) (h : Grow I w I' w') : Keeps ρ I w w' :=
  h.keeps hs.old hs.lt

theorem St.grow {ρ : Rho} {I I' : Nat → Prop} {w w' : World} {S : Store} (hs : St ρ I w S) (h : Grow I w I' w') : St ρ I' w' S where
  len := hs.len
  old := fun b hb => by
    rcases h.inew b hb with hb | hb
    · exact Nat.lt_of_lt_of_le (hs.old b hb) h.size
    · exact hb.2
  obs := fun o ob ho => by
    obtain ⟨b, sz, h1, h2, cs, h3, h4, h5⟩ := hs.obs o ob ho
    exact ⟨b, sz, h1, h2, cs, by rw [h.block b (hs.lt o b sz h1)]; exact h3, h4, fun i hi => RDc.mono h.imono (hs.keeps h) (h5 i hi)⟩
  lt := fun o b sz ho => Nat.lt_of_lt_of_le (hs.lt o b sz ho) h.size
  apart := fun o b sz ob hS ho hb => by
    rcases h.inew b hb with hb | hb
    · exact hs.apart o b sz ob hS ho hb
    · have := hs.lt o b sz ho; omega
  inj := hs.inj

end Go.V

namespace Go.V

abbrev Env := Nat → D

inductive Opd where
  | t (n : Nat)
  | c (d : D)
  deriving Inhabited

def ev (E : Env) : Opd → D
  | .t n => E n
  | .c d => d

def put (E : Env) (dst : Option Nat) (d : D) : Env :=
  match dst with
  | none => E
  | some t => fun i => if i = t then d else E i

inductive SOp where
  | mv (x : Opd)
  | pick (c a b : Opd)
  | bin (op : BinOp) (x y : Opd)
  | beq (ng : Bool) (x y : Opd)
  | peq (ng : Bool) (x y : Opd)
  | not (x : Opd)
  | neg (x : Opd)
  | conv (k : IntKind) (x : Opd)
  | len (x : Opd)
  | cap (x : Opd)
  | slc3 (sz : Nat) (x : Opd) (lo : Option Opd) (hi mx : Opd)
  | isnil (ng : Bool) (x : Opd)
  | appz (ty sz bytes : Nat) (zero : D) (x n : Opd)
  | copy (sz : Nat) (x y : Opd)
  | clear (sz : Nat) (zero : D) (x : Opd)
  | ovl (f : FuncId) (x y : Opd)
  | dead
  | nilc (x : Opd)
  | idx (sz : Nat) (x i : Opd)
  | aidx (n sz : Nat) (x i : Opd)
  | fld (off sz : Nat) (agg : Bool) (x : Opd)
  | part (off sz : Nat) (agg : Bool) (x : Opd)
  | load (sz : Nat) (agg : Bool) (x : Opd)
  | build (zero : List D) (parts : List (Nat × Nat × Opd))
  | lit (ty sz n : Nat) (zero : List D) (parts : List (Nat × Opd))
  | slc (sz : Nat) (x : Opd) (lo hi : Option Opd)
  | ext (x : Opd) (i : Nat)
  | call (f : FuncId) (args : List Opd)
  | callv (x : Opd) (args : List Opd)
  | mkf (f : FuncId) (caps : List Opd)
  | mx (x y : Opd)
  | mn (x y : Opd)
  | box (ty sz : Nat) (x : Opd)
  | alloc (ty sz : Nat) (zero : D)
  | store (sz : Nat) (x y : Opd)
  | mks (ty sz bytes : Nat) (zero : D) (n : Opd)
  | app (ty sz bytes : Nat) (x y : Opd)
  deriving Inhabited

structure SO where
  dst : Option Nat
  guard : Option (Nat × Bool)
  op : SOp
  deriving Inhabited

inductive RT where
  | nil
  | op (o : SO) (t : RT)
  | or (a b : RT)
  | last (o : SO)
  deriving Inhabited
def RT.ofL : List SO → RT
  | [] => .nil
  | o :: r => .op o (RT.ofL r)

inductive SCode where
  | skip
  | reg (m : Nat) (t : RT)
  | seq (a b : SCode)
  | cond (c : Opd) (a b : SCode)
  | block (id : Nat) (c : SCode)
  | loop (c : SCode)
  | exit (id : Nat)
  | ret
  deriving Inhabited

/-! data of values -/
def dOf1 : Value → Option D
  | .int k n => some (.pv (.int k n))
  | .bool b => some (.pv (.bool b))
  | .slice none 0 0 => some .nils
  | .pointer none => some (.pv .nilp)
  | _ => none
def dOfs : List Value → Option (List D)
  | [] => some []
  | v :: vs => match dOf1 v, dOfs vs with
    | some d, some ds => some (d :: ds)
    | _, _ => none
def dOf : Value → Option D
  | .agg cs => (dOfs cs.toList).map .agg
  | v => dOf1 v

def dOpd : Operand → Option Opd
  | .tmp t => some (.t t)
  | .const v => (dOf v).map .c
  | .func f => some (.c (.pv (.clo f [])))
  | .global _ => none

/-! reading slices -/
def asSl : D → Option (List PV)
  | .pv (.sl xs) => some xs
  | .nils => some []
  | _ => none

def slR : D → List PV → D
  | .nils, _ => .nils
  | _, ys => .pv (.sl ys)

def ofPV : PV → D
  | .tup ps => .tup (ps.map .pv)
  | p => .pv p

def toPV0 : D → Option PV
  | .pv (.tup _) => none
  | .pv (.agg _) => none
  | .pv p => some p
  | .nils => some (.sl [])
  | _ => none
def toPV0s : List D → Option (List PV)
  | [] => some []
  | d :: ds => match toPV0 d, toPV0s ds with
    | some p, some ps => some (p :: ps)
    | _, _ => none
def toPV1 : D → Option PV
  | .clo f caps => (toPV0s caps).map (.clo f)
  | d => toPV0 d
def toPV1s : List D → Option (List PV)
  | [] => some []
  | d :: ds => match toPV1 d, toPV1s ds with
    | some p, some ps => some (p :: ps)
    | _, _ => none
def toPV : D → Option PV
  | .agg cs => (toPV1s cs).map .agg
  | .pv (.agg ps) => some (.agg ps)
  | d => toPV1 d
def toPVs : List D → Option (List PV)
  | [] => some []
  | d :: ds => match toPV d, toPVs ds with
    | some p, some ps => some (p :: ps)
    | _, _ => none

def RDs (ρ : Rho) (I : Nat → Prop) (w : World) : List Value → List D → Prop
  | [], [] => True
  | v :: vs, d :: ds => RD ρ I w v d ∧ RDs ρ I w vs ds
  | _, _ => False
def RVs (I : Nat → Prop) (w : World) : List Value → List PV → Prop
  | [], [] => True
  | v :: vs, p :: ps => RD [] I w v (.pv p) ∧ RVs I w vs ps
  | _, _ => False

def PCon (P : Program) (f : FuncId) (ps : List PV) (Post : PV → Prop) : Prop :=
  ∀ (I : Nat → Prop) (w : World) (vs : List Value), (∀ b, I b → b < w.heap.size) → RVs I w vs ps →
    Calls P f vs.toArray w fun e w' => ∃ u p I', e = .returned u ∧ Post p ∧ Grow I w I' w' ∧ RD [] I' w' u (ofPV p)

theorem PCon.mono {P : Program} {f : FuncId} {ps : List PV} {Post Post' : PV → Prop} (h : PCon P f ps Post) (hp : ∀ p, Post p → Post' p) : PCon P f ps Post' :=
  fun I w vs hI hv => (h I w vs hI hv).mono fun _ _ ⟨u, p, I', h1, h2, h3⟩ => ⟨u, p, I', h1, hp p h2, h3⟩

def inR (k : IntKind) (n : Int) : Prop := k.min ≤ n ∧ n ≤ k.max

def binI (op : BinOp) (k : IntKind) (a b : Int) (c : D → Prop) : Prop :=
  match op with
  | .add => inR k (a + b) ∧ c (.pv (.int k (a + b)))
  | .sub => inR k (a - b) ∧ c (.pv (.int k (a - b)))
  | .mul => inR k (a * b) ∧ c (.pv (.int k (a * b)))
  | .quo => (0 ≤ a ∧ 0 < b ∧ inR k (a / b)) ∧ c (.pv (.int k (a / b)))
  | .rem => (0 ≤ a ∧ 0 < b) ∧ c (.pv (.int k (a % b)))
  | .xor => (0 ≤ a ∧ 0 ≤ b ∧ a ≤ k.max ∧ b ≤ k.max) ∧ c (.pv (.int k ((a.toNat ^^^ b.toNat : Nat) : Int)))
  | .shr => (0 ≤ a ∧ 0 ≤ b ∧ b ≤ 8) ∧ c (.pv (.int k (a / 2 ^ b.toNat)))
  | .eql => c (.pv (.bool (decide (a = b))))
  | .neq => c (.pv (.bool (!decide (a = b))))
  | .lss => c (.pv (.bool (decide (a < b))))
  | .leq => c (.pv (.bool (decide (a ≤ b))))
  | .gtr => c (.pv (.bool (decide (b < a))))
  | .geq => c (.pv (.bool (decide (b ≤ a))))
  | _ => False

def binD (op : BinOp) (x y : D) (c : D → Prop) : Prop :=
  match x, y with
  | .pv (.int k a), .pv (.int k' b) => (k = k' ∨ op = .shr) ∧ binI op k a b c
  | _, _ => False


def isOne : D → Bool
  | .agg _ => false
  | .pv (.agg _) => false
  | .tup _ => false
  | _ => true

def fldP (off sz : Nat) (agg : Bool) (cs : List PV) (c : PV → Prop) : Prop :=
  if agg then off + sz ≤ cs.length ∧ c (.agg ((cs.drop off).take sz))
  else ∃ h : off < cs.length, c cs[off]

def fldD (off sz : Nat) (agg : Bool) (cs : List D) (c : D → Prop) : Prop :=
  if agg then off + sz ≤ cs.length ∧ c (.agg ((cs.drop off).take sz))
  else ∃ h : off < cs.length, isOne cs[off] = true ∧ c cs[off]

def optI (E : Env) (o : Option Opd) (dflt : Int) : Option Int :=
  match o with
  | none => some dflt
  | some x => match ev E x with
    | .pv (.int _ n) => some n
    | _ => none

def callable (P : Program) (f : FuncId) : Bool :=
  match P.funcs[f]? with
  | some fn => fn.body.isSome && !(fn.name == "runtime.NumGoroutine")
  | none => false

def cellsD : D → Option (List D)
  | .agg cs => some cs
  | .pv (.agg ps) => some (ps.map .pv)
  | .pv (.tup _) => none
  | .tup _ => none
  | .undef => none
  | .any => none
  | d => some [d]

def setAt (cs : List D) (off : Nat) (ds : List D) : List D := cs.take off ++ ds ++ cs.drop (off + ds.length)

def fillD (E : Env) : List D → List (Nat × Nat × Opd) → Option (List D)
  | cs, [] => some cs
  | cs, (off, sz, x) :: rest => match cellsD (ev E x) with
    | some ds => if ds.length = sz ∧ off + sz ≤ cs.length then fillD E (setAt cs off ds) rest else none
    | none => none

def litD (E : Env) (sz : Nat) : Nat → List (Nat × Opd) → Option (List PV)
  | _, [] => some []
  | n, (_, x) :: rest => match toPV (ev E x), litD E sz n rest with
    | some p, some ps => some (p :: ps)
    | _, _ => none

def litA (E : Env) : List (Nat × Opd) → Option (List (List D))
  | [] => some []
  | (_, x) :: rest => match ev E x, litA E rest with
    | .agg cs, some ps => some (cs :: ps)
    | _, _ => none

def isR0 : D → Bool
  | .pv (.agg _) => false
  | .pv (.tup _) => false
  | .pv _ => true
  | .nils => true
  | .ptr _ _ _ => true
  | .own _ _ => true
  | .sub _ _ _ _ => true
  | _ => false

def stepF (P : Program) (S : Store) (op : SOp) (E : Env) (c : D → Prop) : Prop :=
  match op with
  | .mv x => c (ev E x)
  | .pick x a b => match ev E x with
    | .pv (.bool t) => (t = true → c (ev E a)) ∧ (t = false → c (ev E b))
    | _ => False
  | .bin op x y => binD op (ev E x) (ev E y) c
  | .beq ng x y => match ev E x, ev E y with
    | .pv (.bool a), .pv (.bool b) => c (.pv (.bool (if ng then !(a == b) else a == b)))
    | _, _ => False
  | .peq ng x y => match cellsD (ev E x), cellsD (ev E y) with
    | some [.pv (.int k a), .pv (.int l b)], some [.pv (.int k' a'), .pv (.int l' b')] =>
      (k = k' ∧ l = l') ∧ c (.pv (.bool (if ng then !(decide (a = a') && decide (b = b')) else decide (a = a') && decide (b = b'))))
    | _, _ => False
  | .not x => match ev E x with
    | .pv (.bool t) => c (.pv (.bool (!t)))
    | _ => False
  | .neg x => match ev E x with
    | .pv (.int k n) => inR k (-n) ∧ c (.pv (.int k (-n)))
    | _ => False
  | .conv k x => match ev E x with
    | .pv (.int _ n) => inR k n ∧ c (.pv (.int k n))
    | _ => False
  | .len x => match ev E x with
    | .pv (.sl xs) => c (.pv (.int .i64 xs.length))
    | .nils => c (.pv (.int .i64 0))
    | .own _ n => c (.pv (.int .i64 n))
    | .sub _ _ n _ => c (.pv (.int .i64 n))
    | _ => False
  | .cap x => match ev E x with
    | .sub _ _ _ m => c (.pv (.int .i64 m))
    | .nils => c (.pv (.int .i64 0))
    | _ => False
  | .nilc x => match ev E x with
    | .pv (.con p) => c (.pv (.con p))
    | .ptr o i j => c (.ptr o i j)
    | .pv (.clo f ps) => c (.pv (.clo f ps))
    | .clo f ps => c (.clo f ps)
    | _ => False
  | .idx sz x i => match ev E x, ev E i with
    | .pv (.sl xs), .pv (.int _ n) => 0 ≤ n ∧ ∃ h : n.toNat < xs.length, xs[n.toNat].nc = sz ∧ c (.pv (.con xs[n.toNat]))
    | .own o m, .pv (.int _ n) => (0 ≤ n ∧ n < m ∧ ∃ ob, S[o]? = some (some ob) ∧ ob.sz = sz) ∧ c (.ptr o n.toNat 0)
    | _, _ => False
  | .aidx len sz x i => match ev E x, ev E i with
    | .pv (.con (.agg cs)), .pv (.int _ n) => (0 ≤ n ∧ n < len ∧ sz = 1) ∧ ∃ h : n.toNat < cs.length, c (.pv (.con cs[n.toNat]))
    | .ptr o a b, .pv (.int _ n) => (0 ≤ n ∧ n < len) ∧ c (.ptr o a (b + n.toNat * sz))
    | _, _ => False
  | .fld off sz agg x => match ev E x with
    | .pv (.con (.agg cs)) => fldP off sz agg cs fun p => c (.pv (.con p))
    | .ptr o i j => c (.ptr o i (j + off))
    | _ => False
  | .part off sz agg x => match ev E x with
    | .pv (.agg cs) => fldD off sz agg (cs.map .pv) c
    | .agg cs => fldD off sz agg cs c
    | _ => False
  | .load sz agg x => match ev E x with
    | .pv (.con p) => (p.nc = sz ∧ isAggP p = agg) ∧ c (.pv p)
    | .ptr o i j => match S[o]? with
      | some (some ob) => ∃ h : i < ob.xs.length, match cellsD ob.xs[i] with
        | some cs => cs.length = ob.sz ∧ fldD j sz agg cs c
        | none => False
      | _ => False
    | _ => False
  | .build zero parts => match fillD E zero parts with
    | some cs => c (.agg cs)
    | none => False
  | .slc sz x lo hi => match asSl (ev E x) with
    | some xs => match optI E lo 0, optI E hi xs.length with
      | some l, some h => (0 ≤ l ∧ l ≤ h ∧ h ≤ xs.length ∧ ∀ x ∈ xs, x.nc = sz) ∧ c (slR (ev E x) ((xs.take h.toNat).drop l.toNat))
      | _, _ => False
    | none => match ev E x with
      | .own o n => match optI E lo 0, optI E hi n with
        | some l, some h => (l = 0 ∧ 0 ≤ h ∧ h ≤ n) ∧ c (.own o h.toNat)
        | _, _ => False
      | .sub o off n m => match optI E lo 0, optI E hi n with
        | some l, some h => (0 ≤ l ∧ l ≤ h ∧ h ≤ m ∧ ∃ ob, S[o]? = some (some ob) ∧ ob.sz = sz) ∧ c (if m = l.toNat then .nils else .sub o (off + l.toNat) (h - l).toNat (m - l.toNat))
        | _, _ => False
      | _ => False
  | .slc3 _ x lo hi mx => match ev E x with
    | .sub _ _ n m => match optI E lo 0, optI E (some hi) 0, optI E (some mx) 0 with
      | some l, some h, some k => (0 ≤ l ∧ l ≤ h ∧ h ≤ k ∧ k ≤ m) ∧ c .any
      | _, _, _ => False
    | _ => False
  | .ext x i => match ev E x with
    | .tup ds => ∃ h : i < ds.length, c ds[i]
    | _ => False
  | .call f args => match toPVs (args.map (ev E)) with
    | some ps => ∃ r, PCon P f ps (fun p => p = r) ∧ c (ofPV r)
    | none => False
  | .callv x args => match toPV (ev E x), toPVs (args.map (ev E)) with
    | some (.clo f caps), some ps => callable P f = true ∧ ∃ r, PCon P f (ps ++ caps) (fun p => p = r) ∧ c (ofPV r)
    | _, _ => False
  | .mx x y => match ev E x, ev E y with
    | .pv (.int k a), .pv (.int _ b) => c (.pv (.int k (max a b)))
    | _, _ => False
  | .mn x y => match ev E x, ev E y with
    | .pv (.int k a), .pv (.int _ b) => c (.pv (.int k (min a b)))
    | _, _ => False
  | .mkf f caps => (∀ y ∈ caps, isR0 (ev E y) = true) ∧ c (.clo f (caps.map (ev E)))
  | .lit _ sz n zero parts => if n = 0 then c .nils else match litD E sz n parts with
    | some xs => (∀ x ∈ xs, x.nc = sz) ∧ zero.length = sz ∧ c (.pv (.sl xs))
    | none => False
  | _ => False

def regF (P : Program) (S : Store) : List SO → Env → (Env → Prop) → Prop
  | [], E, K => K E
  | o :: rest, E, K => match o.guard with
    | none => stepF P S o.op E fun d => regF P S rest (put E o.dst d) K
    | some (g, want) => match E g with
      | .pv (.bool t) => (t = want → stepF P S o.op (put E (some g) (.pv (.bool want))) fun d => regF P S rest (put (put E (some g) (.pv (.bool want))) o.dst d) K) ∧
          (t = !want → regF P S rest (put (put E (some g) (.pv (.bool (!want)))) o.dst .undef) K)
      | .undef => regF P S rest (put E o.dst .undef) K
      | _ => False

end Go.V

namespace Go.V

def Oper.slots (o : Oper) : List Tmp := o.op.operands.toList.filterMap fun | .tmp t => some t | _ => none

def ER (ρ : Rho) (I : Nat → Prop) (w : World) (a : Act) (E : Env) : Prop := ∀ t : Nat, RD ρ I w (a.tmps.getD t Go.undef) (E t)

theorem ER.grow {ρ : Rho} {I I' : Nat → Prop} {w w' : World} {S : Store} {a : Act} {E : Env} (h : ER ρ I w a E) (hs : St ρ I w S) (hg : Grow I w I' w') : ER ρ I' w' a E :=
  fun t => RD.mono hg.imono (hs.keeps hg) (h t)

theorem put_size (a : Act) (d : Option Nat) (v : Value) : (a.put d v).tmps.size = a.tmps.size := by
  cases d <;> simp [Act.put]

theorem ER.put {ρ : Rho} {I : Nat → Prop} {w : World} {a : Act} {E : Env} (h : ER ρ I w a E) {dst : Option Nat} (hd : ∀ t, dst = some t → t < a.tmps.size)
    {v : Value} {d : D} (hv : RD ρ I w v d) : ER ρ I w (a.put dst v) (put E dst d) := by
  cases dst with
  | none => exact h
  | some s =>
    intro t
    have hs := hd s rfl
    simp only [V.put, Act.put]
    by_cases hts : t = s
    · subst hts
      simp [hs]; exact hv
    · rw [if_neg hts]
      have := h t
      simp only [Array.getD_eq_getD_getElem?] at *
      rw [Array.getElem?_setIfInBounds_ne (by omega)]
      exact this

def OpOK (P : Program) (S : Store) (o : Oper) (E : Env) (d : D) : Prop :=
  ∀ (ρ : Rho) (I : Nat → Prop) (w : World) (a : Act) (next : Act → World → Prop) (Q : Exit → Act → World → Prop), StR ρ I w S →
    (∀ t ∈ Oper.slots o, RD ρ I w (a.tmps.getD t Go.undef) (E t)) →
    (∀ u I' w', Grow I w I' w' → RD ρ I' w' u d → next (a.put o.dst u) w') → o.wp P a w next Q

def wantD (ops : Array Oper) (E : Env) (o : Oper) : Option Bool :=
  match o.guard with
  | none => some true
  | some (j, want) => match (ops[j]?).bind (·.dst) with
    | none => some false
    | some t => match E t with
      | .pv (.bool b) => some (b == want)
      | .undef => some false
      | _ => none

theorem wantD_sound {ops : Array Oper} {E : Env} {o : Oper} {b : Bool} {ρ : Rho} {I : Nat → Prop} {w : World} {a : Act} (h : wantD ops E o = some b)
    (he : ER ρ I w a E) (hN : ∀ o ∈ ops, ∀ d, o.dst = some d → d < a.tmps.size) : Region.wanted o (yielded ops a.tmps) = b := by
  unfold wantD at h
  unfold Region.wanted
  cases hg : o.guard with
  | none => simp [hg] at h; simp [h]
  | some jw =>
    obtain ⟨j, want⟩ := jw
    simp only [hg] at h ⊢
    unfold yielded
    cases ht : (ops[j]?).bind (·.dst) with
    | none => simp [ht] at h; subst h; simp
    | some t =>
      have htN : t < a.tmps.size := by
        obtain ⟨oj, hj, hd⟩ := Option.bind_eq_some_iff.1 ht
        exact hN oj (Array.mem_of_getElem? hj) t hd
      have hv := he t
      rw [Array.getD_eq_getD_getElem?, Array.getElem?_eq_getElem htN] at hv
      simp only [Option.getD_some] at hv
      simp only [ht, Option.bind_some, Array.getElem?_eq_getElem htN] at h ⊢
      cases hE : E t with
      | pv p =>
        rw [hE] at h hv
        cases p with
        | bool b' =>
          simp at h
          simp only [RD, RS, R1, R0] at hv
          generalize a.tmps[t] = v at *
          cases hv
          subst h
          rfl
        | _ => simp at h
      | undef =>
        rw [hE] at h hv
        simp only [RD, RS, R1, R0] at hv
        simp at h
        rw [hv]
        subst h
        rfl
      | _ => rw [hE] at h; simp at h

section
variable {P : Program} {S : Store} {ops : Array Oper} {md : Region.Mode}

def YieldsD (P : Program) (S : Store) (ops : Array Oper) (o : Oper) (d : D) (E : Env) : Prop :=
  (wantD ops E o = some true ∧ OpOK P S o E d) ∨ (wantD ops E o = some false ∧ d = .undef)

def vOp (P : Program) (S : Store) (ops : Array Oper) (i : Nat) (K : Env → Prop) (E : Env) : Prop :=
  match ops[i]? with
  | none => K E
  | some o => ∃ d, YieldsD P S ops o d E ∧ K (put E o.dst d)

theorem vOp_mono {i : Nat} {K K' : Env → Prop} {E : Env} (h : ∀ E, K E → K' E) (hh : vOp P S ops i K E) : vOp P S ops i K' E := by
  unfold vOp at *
  split
  · exact h _ (by simpa [*] using hh)
  · rename_i o ho
    simp only [ho] at hh
    obtain ⟨d, h1, h2⟩ := hh
    exact ⟨d, h1, h _ h2⟩

def wpAnyV (P : Program) (S : Store) (md : Region.Mode) (ops : Array Oper) (Q : Env → Prop) : Nat → Array Bool → Env → Prop
  | 0, listed, E => Region.ready md ops listed = [] ∧ Q E
  | fuel + 1, listed, E =>
    (Region.ready md ops listed = [] → Q E) ∧
    ∀ i ∈ Region.ready md ops listed, vOp P S ops i (wpAnyV P S md ops Q fuel (listed.setIfInBounds i true)) E

theorem put_comm (E : Env) {x y : Option Nat} (v u : D) (h : ∀ d, x = some d → y ≠ some d) : put (put E x v) y u = put (put E y u) x v := by
  cases x with
  | none => rfl
  | some a =>
    cases y with
    | none => rfl
    | some b =>
      have hne : b ≠ a := fun he => h a rfl (he ▸ rfl)
      funext i
      simp only [put]
      by_cases h1 : i = b
      · subst h1; simp [hne]
      · simp [h1]

theorem OpOK.put {o : Oper} {E : Env} {d : D} {dst : Option Nat} {v : D} (h : OpOK P S o E d) (hd : ∀ t, dst = some t → t ∉ o.looksAt ops) : OpOK P S o (put E dst v) d := by
  intro ρ I w a next Q hs he hn
  refine h ρ I w a next Q hs (fun t ht => ?_) hn
  have := he t ht
  cases dst with
  | none => exact this
  | some s =>
    have hne : t ≠ s := fun e => hd s rfl (by subst e; exact List.mem_append_left _ ht)
    simpa [V.put, hne] using this
theorem OpOK.unput {o : Oper} {E : Env} {d : D} {dst : Option Nat} {v : D} (h : OpOK P S o (V.put E dst v) d) (hd : ∀ t, dst = some t → t ∉ o.looksAt ops) : OpOK P S o E d := by
  intro ρ I w a next Q hs he hn
  refine h ρ I w a next Q hs (fun t ht => ?_) hn
  have := he t ht
  cases dst with
  | none => exact this
  | some s =>
    have hne : t ≠ s := fun e => hd s rfl (by subst e; exact List.mem_append_left _ ht)
    simpa [V.put, hne] using this

theorem wantD_put (o : Oper) (E : Env) (dst : Option Nat) (v : D) (h : ∀ d, dst = some d → d ∉ o.looksAt ops) : wantD ops (put E dst v) o = wantD ops E o := by
  cases dst with
  | none => rfl
  | some d =>
    unfold wantD
    cases hg : o.guard with
    | none => rfl
    | some gw =>
      obtain ⟨g, want⟩ := gw
      simp only
      cases ht : (ops[g]?).bind (·.dst) with
      | none => rfl
      | some t =>
        have hne : t ≠ d := fun e => h d rfl (by subst e; simp [Oper.looksAt, hg, ht])
        simp [put, hne]

theorem YieldsD.put {o : Oper} {E : Env} {d : D} {dst : Option Nat} {v : D} (h : YieldsD P S ops o d E) (hd : ∀ t, dst = some t → t ∉ o.looksAt ops) :
    YieldsD P S ops o d (V.put E dst v) := by
  unfold YieldsD at *
  rw [wantD_put o E dst v hd]
  exact h.imp (fun ⟨h1, h2⟩ => ⟨h1, h2.put hd⟩) id
theorem YieldsD.unput {o : Oper} {E : Env} {d : D} {dst : Option Nat} {v : D} (h : YieldsD P S ops o d (V.put E dst v)) (hd : ∀ t, dst = some t → t ∉ o.looksAt ops) :
    YieldsD P S ops o d E := by
  unfold YieldsD at *
  rw [wantD_put o E dst v hd] at h
  exact h.imp (fun ⟨h1, h2⟩ => ⟨h1, h2.unput hd⟩) id

theorem vOp_put {j : Nat} {oi oj : Oper} {d : D} (hj : ops[j]? = some oj) (hap : oi.apart ops oj = true) {K : Env → Prop} {E : Env}
    (hy : YieldsD P S ops oi d E) (h : vOp P S ops j K (put E oi.dst d)) :
    vOp P S ops j (fun E' => YieldsD P S ops oi d E' ∧ K (put E' oi.dst d)) E := by
  obtain ⟨h1, h2, h3⟩ := Oper.apart_spec hap
  unfold vOp at *
  simp only [hj] at *
  obtain ⟨d', hy', hK⟩ := h
  exact ⟨d', hy'.unput h1, hy.put h3, by rw [← put_comm E d d' h2]; exact hK⟩

theorem wpAnyV_first {Q : Env → Prop} {i : Nat} {oi : Oper} {d : D} (hi : ops[i]? = some oi) :
    ∀ (fuel : Nat) (listed : Array Bool) (E : Env),
      (∀ j oj, ops[j]? = some oj → j ≠ i → listed.getD j true = false → (∀ e ∈ oj.after, Region.binds md e = true → e.on ≠ i) → oi.apart ops oj = true) →
      i ∈ Region.ready md ops listed → YieldsD P S ops oi d E →
      wpAnyV P S md ops Q fuel (listed.setIfInBounds i true) (put E oi.dst d) → wpAnyV P S md ops Q (fuel + 1) listed E := by
  intro fuel
  induction fuel with
  | zero =>
    intro listed E _ hr hy H
    refine ⟨fun h => (by rw [h] at hr; cases hr), fun j hj => ?_⟩
    by_cases hji : j = i
    · subst hji; unfold vOp; simp only [hi]; exact ⟨d, hy, H⟩
    · have := ready_mono hj hji
      rw [H.1] at this
      cases this
  | succ fuel ih =>
    intro listed E hfree hr hy H
    refine ⟨fun h => (by rw [h] at hr; cases hr), fun j hj => ?_⟩
    by_cases hji : j = i
    · subst hji; unfold vOp; simp only [hi]; exact ⟨d, hy, H⟩
    · have h1 := H.2 j (ready_mono hj hji)
      obtain ⟨hjun, oj, hoj, hall⟩ := mem_ready.1 hj
      have hnot : ∀ e ∈ oj.after, Region.binds md e = true → e.on ≠ i := fun e he hb heq => by
        have h1 := hall e he hb
        have h0 := (mem_ready.1 hr).1
        rw [heq] at h1
        rcases Nat.lt_or_ge i listed.size with h' | h'
        · simp [h'] at h0 h1; rw [h0] at h1; cases h1
        · simp [Array.getElem?_eq_none h'] at h1
      have h2 := vOp_put hoj (hfree j oj hoj hji hjun hnot) hy h1
      have hfree' : ∀ k ok, ops[k]? = some ok → k ≠ i → (listed.setIfInBounds j true).getD k true = false →
          (∀ e ∈ ok.after, Region.binds md e = true → e.on ≠ i) → oi.apart ops ok = true := fun k ok hk hki hun hno => by
        refine hfree k ok hk hki ?_ hno
        by_cases hjk : j = k
        · subst hjk; exact hjun
        · rw [getD_set_ne true hjk] at hun; exact hun
      refine vOp_mono (fun E' h3 => ih (listed.setIfInBounds j true) E' hfree' (ready_mono hr (Ne.symm hji)) h3.1 ?_) h2
      rw [Array.setIfInBounds_comm _ _ hji]
      exact h3.2

def wpLex (P : Program) (S : Store) (ops : Array Oper) (Q : Env → Prop) : List Oper → Env → Prop
  | [], E => Q E
  | o :: rest, E => ∃ d, YieldsD P S ops o d E ∧ wpLex P S ops Q rest (put E o.dst d)

theorem wpAnyV_lex {Q : Env → Prop} : ∀ (l : List Oper) (k : Nat) (listed : Array Bool) (E : Env), (∀ j : Nat, l[j]? = ops[k + j]?) →
    Region.lexFrom md ops l.length k listed = true → wpLex P S ops Q l E → wpAnyV P S md ops Q l.length listed E
  | [], _, _, _, _, hB, h => ⟨by simpa [Region.lexFrom] using hB, h⟩
  | o :: l, k, listed, E, hl, hB, h => by
    have h0 : ops[k]? = some o := by simpa using (hl 0).symm
    simp only [List.length_cons, Region.lexFrom, Bool.and_eq_true] at hB
    obtain ⟨⟨hr, hf⟩, hB'⟩ := hB
    obtain ⟨d, hy, hK⟩ := h
    exact wpAnyV_first h0 l.length listed E (Region.free_spec h0 hf) (by simpa using hr) hy
      (wpAnyV_lex l (k + 1) _ _ (fun j => by have := hl (j + 1); simpa [Nat.add_assoc, Nat.add_comm 1 j] using this) hB' hK)

def EndF (ρ : Rho) (I : Nat → Prop) (w : World) (S : Store) (N : Nat) (a : Act) (Q : Env → Prop) (a' : Act) (w' : World) : Prop :=
  ∃ E' I', Q E' ∧ St ρ I' w' S ∧ ER ρ I' w' a' E' ∧ a'.tmps.size = N ∧ a'.defers = a.defers ∧ Grow I w I' w'

theorem vOp_sound {i : Nat} {K : Env → Prop} {E : Env} {ρ : Rho} {I : Nat → Prop} {w : World} {a : Act} {N : Nat} {Q' : Exit → Act → World → Prop} {K' : Act → World → Prop}
    (hN : ∀ o ∈ ops, ∀ d, o.dst = some d → d < N) (hs : St ρ I w S) (he : ER ρ I w a E) (ha : a.tmps.size = N)
    (h : vOp P S ops i K E)
    (hK : ∀ E' I' w' a', K E' → St ρ I' w' S → ER ρ I' w' a' E' → a'.tmps.size = N → a'.defers = a.defers → Grow I w I' w' → K' a' w') : wpOp P ops Q' i K' a w := by
  unfold vOp at h
  unfold wpOp
  split
  · rename_i ho; simp only [ho] at h; exact hK _ _ _ _ h hs he ha rfl (Grow.refl _ _)
  · rename_i o ho
    simp only [ho] at h
    obtain ⟨d, hy, hd⟩ := h
    have hNo : ∀ t, o.dst = some t → t < a.tmps.size := fun t ht => by rw [ha]; exact hN o (Array.mem_of_getElem? ho) t ht
    rcases hy with ⟨hw, hop⟩ | ⟨hw, rfl⟩
    · rw [wantD_sound hw he (by rw [ha]; exact hN)]
      simp only [if_true]
      refine .inl (hop ρ I w a _ _ hs.toStR (fun t _ => he t) fun u I' w' hg hu => ?_)
      exact hK _ I' w' _ hd (hs.grow hg) ((he.grow hs hg).put hNo hu) (by rw [put_size]; exact ha) (by cases o.dst <;> rfl) hg
    · rw [wantD_sound hw he (by rw [ha]; exact hN)]
      simp only [Bool.false_eq_true, if_false]
      exact hK _ I w _ hd hs (he.put hNo (by simp only [RD, RS, R1, R0])) (by rw [put_size]; exact ha) (by cases o.dst <;> rfl) (Grow.refl _ _)

theorem wpAny_of_V {Q : Env → Prop} {Q' : Exit → Act → World → Prop} {ρ : Rho} {N : Nat} (hN : ∀ o ∈ ops, ∀ d, o.dst = some d → d < N) :
    ∀ (fuel : Nat) (listed : Array Bool) (E : Env) (I : Nat → Prop) (w : World) (a : Act), St ρ I w S → ER ρ I w a E → a.tmps.size = N →
      (∀ E' I' w' a', Q E' → St ρ I' w' S → ER ρ I' w' a' E' → a'.tmps.size = N → a'.defers = a.defers → Grow I w I' w' → Q' .normal a' w') →
      wpAnyV P S md ops Q fuel listed E → wpAny P md ops Q' fuel listed a w
  | 0, _, E, I, w, a, hs, he, ha, hQ, h => ⟨h.1, hQ E I w a h.2 hs he ha rfl (Grow.refl _ _)⟩
  | fuel + 1, _, E, I, w, a, hs, he, ha, hQ, h =>
    ⟨fun h0 => hQ E I w a (h.1 h0) hs he ha rfl (Grow.refl _ _), fun i hi =>
      vOp_sound hN hs he ha (h.2 i hi) fun E' I' w' a' hE hs' he' ha' hdf hg =>
        wpAny_of_V hN fuel _ E' I' w' a' hs' he' ha' (fun E'' I'' w'' a'' h1 h2 h3 h4 h5 h6 => hQ E'' I'' w'' a'' h1 h2 h3 h4 (h5.trans hdf) (hg.trans h6)) hE⟩

theorem wpOps_of_lex {Q : Env → Prop} {Q' : Exit → Act → World → Prop} {ρ : Rho} {N : Nat} (hN : ∀ o ∈ ops, ∀ d, o.dst = some d → d < N) :
    ∀ (l : List Oper) (k : Nat) (E : Env) (I : Nat → Prop) (w : World) (a : Act), (∀ j : Nat, l[j]? = ops[k + j]?) → St ρ I w S → ER ρ I w a E → a.tmps.size = N →
      (∀ E' I' w' a', Q E' → St ρ I' w' S → ER ρ I' w' a' E' → a'.tmps.size = N → a'.defers = a.defers → Grow I w I' w' → Q' .normal a' w') →
      wpLex P S ops Q l E → wpOps P ops Q' (List.range' k l.length) a w
  | [], _, E, I, w, a, _, hs, he, ha, hQ, h => hQ E I w a h hs he ha rfl (Grow.refl _ _)
  | o :: l, k, E, I, w, a, hl, hs, he, ha, hQ, h => by
    have h0 : ops[k]? = some o := by simpa using (hl 0).symm
    rw [List.length_cons, List.range'_succ, wpOps_cons]
    obtain ⟨d, hy, hK⟩ := h
    refine vOp_sound (K := wpLex P S ops Q l) hN hs he ha ?_ fun E' I' w' a' hE hs' he' ha' hdf hg =>
        wpOps_of_lex hN l (k + 1) E' I' w' a' (fun j => by have := hl (j + 1); simpa [Nat.add_assoc, Nat.add_comm 1 j] using this) hs' he' ha'
          (fun E'' I'' w'' a'' h1 h2 h3 h4 h5 h6 => hQ E'' I'' w'' a'' h1 h2 h3 h4 (h5.trans hdf) (hg.trans h6)) hE
    unfold vOp
    simp only [h0]
    exact ⟨d, hy, hK⟩

theorem wp_free {id : Nat} {draw : Bool} {Q : Env → Prop} {Q' : Exit → Act → World → Prop} {ρ : Rho} {N : Nat} {E : Env} {I : Nat → Prop} {w : World} {a : Act}
    (hN : ∀ o ∈ ops, ∀ d, o.dst = some d → d < N) (hm : P.follows .mixedOrders = true) (hB : draw = true → Region.lexB .any ops = true)
    (hs : St ρ I w S) (he : ER ρ I w a E) (ha : a.tmps.size = N)
    (hQ : ∀ E' I' w' a', Q E' → St ρ I' w' S → ER ρ I' w' a' E' → a'.tmps.size = N → a'.defers = a.defers → Grow I w I' w' → Q' .normal a' w')
    (h : wpLex P S ops Q ops.toList E) : (Code.region id ops draw).wp P Q' a w := by
  cases draw with
  | true =>
    have hB := hB rfl
    simp only [Region.lexB, Bool.and_eq_true] at hB
    have hg : Grow I w I { w with drawn := w.drawn + 1 } := ⟨rfl, rfl, rfl, Nat.le_refl _, fun _ _ => rfl, fun _ h => h, fun _ h => .inl h⟩
    have hl := wpAnyV_lex (md := .any) (Q := Q) ops.toList 0 (Array.replicate ops.size false) E (by simp) (by simpa using hB.2) h
    refine wp_region_any hm ?_
    have := wpAny_of_V (Q' := Q') hN ops.toList.length _ E I { w with drawn := w.drawn + 1 } a (hs.grow hg) (he.grow hs hg) ha
      (fun E' I' w' a' h1 h2 h3 h4 h5 h6 => hQ E' I' w' a' h1 h2 h3 h4 h5 (hg.trans h6)) hl
    simpa using this
  | false =>
    refine wp_region ?_
    have := wpOps_of_lex (Q' := Q') hN ops.toList 0 E I w a (by simp) hs he ha hQ h
    simpa [List.range_eq_range'] using this
end
end Go.V

namespace Go.V

/-! shapes -/
section shapes
variable {ρ : Rho} {I : Nat → Prop} {w : World} {v : Value}
theorem rd_pv {p : PV} (hp : isAggP p = false) : RD ρ I w v (.pv p) ↔ RC I w [v] p := by
  cases p <;> simp_all [RD, RS, R1, R0, isAggP]
theorem rd_int {k : IntKind} {n : Int} : RD ρ I w v (.pv (.int k n)) ↔ v = .int k n := by
  rw [rd_pv rfl]
  constructor
  · intro h; cases h; rfl
  · rintro rfl; exact .int k n
theorem rd_bool {b : Bool} : RD ρ I w v (.pv (.bool b)) ↔ v = .bool b := by
  rw [rd_pv rfl]
  constructor
  · intro h; cases h; rfl
  · rintro rfl; exact .bool b
theorem rd_sl {xs : List PV} (h : RD ρ I w v (.pv (.sl xs))) : (xs = [] ∧ ∃ a cap, v = .slice a 0 cap ∧ cap ≤ maxLen) ∨
    ∃ b off cap sz, ∃ vs : Nat → List Value, v = .slice (some ⟨b, off, none⟩) xs.length cap ∧ xs.length ≤ cap ∧ cap ≤ maxLen ∧ I b ∧
      (∀ i, i < xs.length → (vs i).length = sz) ∧ (∀ i, i < xs.length → CellsAt w b (off + i * sz) (vs i)) ∧ (∀ i (h : i < xs.length), RC I w (vs i) xs[i]) := by
  rw [rd_pv rfl] at h
  cases h with
  | sl0 a cap h => exact .inl ⟨rfl, a, cap, rfl, h⟩
  | sl xs b off cap sz n vs hn h1 h2 h3 h4 h5 h6 => subst hn; exact .inr ⟨b, off, cap, sz, vs, rfl, h1, h2, h3, h4, h5, h6⟩
theorem rd_sl' {xs : List PV} (h : RD ρ I w v (.pv (.sl xs))) : ∃ a cap, v = .slice a xs.length cap ∧ xs.length ≤ cap ∧ cap ≤ maxLen := by
  rcases rd_sl h with ⟨rfl, a, cap, rfl, h0⟩ | ⟨b, off, cap, sz, vs, rfl, h1, h2, _⟩
  · exact ⟨a, cap, rfl, Nat.zero_le _, h0⟩
  · exact ⟨_, cap, rfl, h1, h2⟩
theorem rd_con {p : PV} (h : RD ρ I w v (.pv (.con p))) : ∃ b off, ∃ vs : List Value, v = .pointer (some ⟨b, off, none⟩) ∧ I b ∧ CellsAt w b off vs ∧ RC I w vs p := by
  rw [rd_pv rfl] at h
  cases h with
  | con b off vs p h1 h2 h3 => exact ⟨b, off, vs, rfl, h1, h2, h3⟩
theorem rd_agg {ps : List PV} : RD ρ I w v (.pv (.agg ps)) ↔ ∃ vs : List Value, v = .agg vs.toArray ∧ RC I w vs (.agg ps) := by
  simp [RD, RS]
theorem rd_dagg {cs : List D} : RD ρ I w v (.agg cs) ↔ ∃ vs : List Value, v = .agg vs.toArray ∧ vs.length = cs.length ∧ ∀ i (h : i < vs.length) (h' : i < cs.length), R1 ρ I w vs[i] cs[i] := by
  simp [RD, RS]
theorem rc_agg {ps : List PV} {vs : List Value} (h : RC I w vs (.agg ps)) : vs.length = ps.length ∧ ∀ i (h : i < vs.length) (h' : i < ps.length), RC I w [vs[i]] ps[i] := by
  cases h with
  | agg _ _ h1 h2 => exact ⟨h1, h2⟩
theorem rd_ptr {o i j : Nat} : RD ρ I w v (.ptr o i j) ↔ ∃ b sz, ρ[o]? = some (some (b, sz)) ∧ v = .pointer (some ⟨b, i * sz + j, none⟩) := by
  simp [RD, RS, R1, R0]
theorem rd_own {o n : Nat} : RD ρ I w v (.own o n) ↔ R0 ρ I w v (.own o n) := by
  simp [RD, RS, R1]
theorem rd_sub {o off n cap : Nat} : RD ρ I w v (.sub o off n cap) ↔ R0 ρ I w v (.sub o off n cap) := by
  simp [RD, RS, R1]
theorem rd_nils : RD ρ I w v .nils ↔ ∃ a : Option Addr, v = .slice a 0 0 := by
  simp [RD, RS, R1, R0]
theorem rd_undef : RD ρ I w v .undef ↔ v = Go.undef := by
  simp [RD, RS, R1, R0]
theorem rd_any : RD ρ I w v .any := by simp [RD, RS, R1, R0]
theorem single_of_rc {p : PV} (h : RC I w [v] p) (hp : isAggP p = false) : v.cells = #[v] := by
  cases h <;> first | rfl | simp [isAggP] at hp
end shapes

theorem dOf1_sound {ρ : Rho} {I : Nat → Prop} {w : World} {v : Value} {d : D} (h : dOf1 v = some d) : RD ρ I w v d ∧ R1 ρ I w v d := by
  unfold dOf1 at h
  split at h <;> simp at h <;> subst h
  · exact ⟨rd_int.2 rfl, .int _ _⟩
  · exact ⟨rd_bool.2 rfl, .bool _⟩
  · exact ⟨rd_nils.2 ⟨_, rfl⟩, ⟨_, rfl⟩⟩
  · exact ⟨(rd_pv rfl).2 .nilp, .nilp⟩
theorem dOfs_sound {ρ : Rho} {I : Nat → Prop} {w : World} : ∀ {vs : List Value} {ds : List D}, dOfs vs = some ds →
    vs.length = ds.length ∧ ∀ i (h : i < vs.length) (h' : i < ds.length), R1 ρ I w vs[i] ds[i]
  | [], ds, h => by simp [dOfs] at h; subst h; simp
  | v :: vs, ds, h => by
    simp only [dOfs] at h
    split at h <;> simp at h
    rename_i d ds' h1 h2
    subst h
    obtain ⟨h3, h4⟩ := dOfs_sound (ρ := ρ) (I := I) (w := w) h2
    refine ⟨by simp [h3], fun i hi hi' => ?_⟩
    cases i with
    | zero => exact (dOf1_sound h1).2
    | succ i => exact h4 i (by simpa using hi) (by simpa using hi')
theorem dOf_sound {ρ : Rho} {I : Nat → Prop} {w : World} {v : Value} {d : D} (h : dOf v = some d) : RD ρ I w v d := by
  unfold dOf at h
  split at h
  · rename_i cs
    simp only [Option.map_eq_some_iff] at h
    obtain ⟨ds, h1, rfl⟩ := h
    obtain ⟨h2, h3⟩ := dOfs_sound (ρ := ρ) (I := I) (w := w) h1
    exact rd_dagg.2 ⟨cs.toList, by simp, h2, h3⟩
  · exact (dOf1_sound h).1

theorem dOpd_sound {ρ : Rho} {I : Nat → Prop} {w : World} {a : Act} {E : Env} {x : Operand} {y : Opd} (h : dOpd x = some y)
    (he : ∀ t, x = .tmp t → RD ρ I w (a.tmps.getD t Go.undef) (E t)) : RD ρ I w (a.eval x) (ev E y) := by
  cases x with
  | tmp t => simp [dOpd] at h; subst h; exact he t rfl
  | const v =>
    simp only [dOpd, Option.map_eq_some_iff] at h
    obtain ⟨d, h1, rfl⟩ := h
    exact dOf_sound h1
  | func f =>
    simp [dOpd] at h; subst h
    exact (rd_pv rfl).2 (.clo f [] [] rfl (by simp) (by simp))
  | global g => simp [dOpd] at h

def dOpds : List Operand → Option (List Opd)
  | [] => some []
  | x :: xs => match dOpd x, dOpds xs with
    | some y, some ys => some (y :: ys)
    | _, _ => none

/-! numbers -/
theorem wrap_of_inR {k : IntKind} {n : Int} (h : inR k n) : k.wrap n = n := by
  obtain ⟨h1, h2⟩ := h
  cases k <;> simp [IntKind.min, IntKind.max, IntKind.wrap, IntKind.bits, IntKind.signed] at * <;> (try split) <;> omega

theorem wp_value {P : Program} {o : Oper} {a : Act} {w w' : World} {next : Act → World → Prop} {Q : Exit → Act → World → Prop} {u : Value}
    (h : (execOp a.eval o).run P w = .ok (.value u) w') (hn : next (a.put o.dst u) w') : o.wp P a w next Q := by
  unfold Oper.wp; rw [h]; exact hn

theorem opOK_run {P : Program} {S : Store} {o : Oper} {E : Env} {d : D}
    (h : ∀ (ρ : Rho) (I : Nat → Prop) (w : World) (a : Act), StR ρ I w S → (∀ t ∈ Oper.slots o, RD ρ I w (a.tmps.getD t Go.undef) (E t)) →
      ∃ u I' w', (execOp a.eval o).run P w = .ok (.value u) w' ∧ Grow I w I' w' ∧ RD ρ I' w' u d) : OpOK P S o E d := by
  intro ρ I w a next Q hs he hn
  obtain ⟨u, I', w', h1, h2, h3⟩ := h ρ I w a hs he
  exact wp_value h1 (hn u I' w' h2 h3)

theorem opOK_pure {P : Program} {S : Store} {o : Oper} {E : Env} {d : D}
    (h : ∀ (ρ : Rho) (I : Nat → Prop) (w : World) (a : Act), StR ρ I w S → (∀ t ∈ Oper.slots o, RD ρ I w (a.tmps.getD t Go.undef) (E t)) →
      ∃ u, (execOp a.eval o).run P w = .ok (.value u) w ∧ RD ρ I w u d) : OpOK P S o E d :=
  opOK_run fun ρ I w a hs he => by
    obtain ⟨u, h1, h2⟩ := h ρ I w a hs he
    exact ⟨u, I, w, h1, Grow.refl _ _, h2⟩

section ops
variable {P : Program} {S : Store} {o : Oper} {E : Env} {c : D → Prop}

theorem slots_mem {o : Oper} {t : Nat} (h : Operand.tmp t ∈ o.op.operands) : t ∈ Oper.slots o :=
  List.mem_filterMap.2 ⟨.tmp t, by simpa using h, rfl⟩

theorem ok_mv {x : Operand} {y : Opd} (hop : o.op = .move x ∨ o.op = .assign x) (hx : dOpd x = some y) (h : stepF P S (.mv y) E c) : ∃ d, OpOK P S o E d ∧ c d := by
  refine ⟨_, opOK_pure fun ρ I w a hs he => ⟨a.eval x, ?_, dOpd_sound hx fun t ht => he t (slots_mem ?_)⟩, h⟩
  · rcases hop with h | h <;> simp [execOp, h]
  · rcases hop with h | h <;> simp [h, Op.operands, ht]

theorem ok_pick {x a b : Operand} {x' a' b' : Opd} (hop : o.op = .pick x a b) (hx : dOpd x = some x') (ha : dOpd a = some a') (hb : dOpd b = some b')
    (h : stepF P S (.pick x' a' b') E c) : ∃ d, OpOK P S o E d ∧ c d := by
  simp only [stepF] at h
  split at h
  · rename_i t ht
    refine ⟨if t then ev E a' else ev E b', opOK_pure fun ρ I w ac hs he => ?_, by cases t <;> simp_all⟩
    have h1 := dOpd_sound hx fun t ht => he t (slots_mem (by simp [hop, Op.operands, ht]))
    have h2 := dOpd_sound ha fun t ht => he t (slots_mem (by simp [hop, Op.operands, ht]))
    have h3 := dOpd_sound hb fun t ht => he t (slots_mem (by simp [hop, Op.operands, ht]))
    rw [ht, rd_bool] at h1
    refine ⟨if t then ac.eval a else ac.eval b, by simp [execOp, hop, h1, asBool], by cases t <;> simp_all⟩
  · exact h.elim


theorem run_eqGuard_int (op : BinOp) (T : TypeId) (x y : Operand) (k k' : IntKind) (a b : Int) (w : World) : (eqGuard op T x y (.int k a) (.int k' b)).run P w = .ok () w := by
  unfold eqGuard; split <;> rfl
theorem run_eqGuard_bool (op : BinOp) (T : TypeId) (x y : Operand) (a b : Bool) (w : World) : (eqGuard op T x y (.bool a) (.bool b)).run P w = .ok () w := by
  unfold eqGuard; split <;> rfl

theorem nat_xor_lt {a b n : Nat} (ha : a < 2 ^ n) (hb : b < 2 ^ n) : a ^^^ b < 2 ^ n := Nat.xor_lt_two_pow ha hb

theorem run_binI {op : BinOp} {T : TypeId} {k k' : IntKind} {a b : Int} (hk : k = k' ∨ op = .shr) (h : binI op k a b c) :
    ∃ u d, (∀ w, (binOp op T (.int k a) (.int k' b)).run P w = .ok u w) ∧ (∀ (ρ : Rho) I w, RD ρ I w u d) ∧ c d := by
  cases op <;> simp only [binI] at h
  case add =>
    obtain rfl : k = k' := by simpa using hk
    exact ⟨.int k (a + b), _, fun w => by simp [binOp, Op.intArith, wrap_of_inR h.1], fun _ _ _ => rd_int.2 rfl, h.2⟩
  case sub =>
    obtain rfl : k = k' := by simpa using hk
    exact ⟨.int k (a - b), _, fun w => by simp [binOp, Op.intArith, wrap_of_inR h.1], fun _ _ _ => rd_int.2 rfl, h.2⟩
  case mul =>
    obtain rfl : k = k' := by simpa using hk
    exact ⟨.int k (a * b), _, fun w => by simp [binOp, Op.intArith, wrap_of_inR h.1], fun _ _ _ => rd_int.2 rfl, h.2⟩
  case quo =>
    obtain rfl : k = k' := by simpa using hk
    obtain ⟨⟨h1, h2, h3⟩, h4⟩ := h
    exact ⟨.int k (a / b), _, fun w => by simp [binOp, Op.intDiv, Int.ne_of_gt h2, Int.tdiv_eq_ediv_of_nonneg h1, wrap_of_inR h3], fun _ _ _ => rd_int.2 rfl, h4⟩
  case rem =>
    obtain rfl : k = k' := by simpa using hk
    obtain ⟨⟨h1, h2⟩, h4⟩ := h
    exact ⟨.int k (a % b), _, fun w => by simp [binOp, Op.intDiv, Int.ne_of_gt h2, Int.tmod_eq_emod_of_nonneg h1], fun _ _ _ => rd_int.2 rfl, h4⟩
  case xor =>
    obtain rfl : k = k' := by simpa using hk
    obtain ⟨⟨h1, h2, h3, h4⟩, h5⟩ := h
    refine ⟨.int k ((a.toNat ^^^ b.toNat : Nat) : Int), _, fun w => ?_, fun _ _ _ => rd_int.2 rfl, h5⟩
    obtain ⟨x, rfl⟩ := Int.eq_ofNat_of_zero_le h1
    obtain ⟨y, rfl⟩ := Int.eq_ofNat_of_zero_le h2
    have hx : x < 2 ^ k.bits := by cases k <;> simp [IntKind.max, IntKind.bits, IntKind.signed] at * <;> omega
    have hy : y < 2 ^ k.bits := by cases k <;> simp [IntKind.max, IntKind.bits, IntKind.signed] at * <;> omega
    have hxy : ((x ^^^ y : Nat) : Int) ≤ k.max := by
      have hx' : x < 2 ^ (if k.signed then k.bits - 1 else k.bits) := by cases k <;> simp [IntKind.max, IntKind.bits, IntKind.signed] at * <;> omega
      have hy' : y < 2 ^ (if k.signed then k.bits - 1 else k.bits) := by cases k <;> simp [IntKind.max, IntKind.bits, IntKind.signed] at * <;> omega
      have := nat_xor_lt hx' hy'
      cases k <;> simp [IntKind.max, IntKind.bits, IntKind.signed] at * <;> omega
    have hin : inR k ((x ^^^ y : Nat) : Int) := ⟨by have : k.min ≤ 0 := by cases k <;> simp [IntKind.min, IntKind.bits, IntKind.signed]
                                                    omega, hxy⟩
    simp only [binOp, Op.intBits, ne_eq, not_true_eq_false, if_false, Sem.run_pure]
    have e : (BitVec.ofInt k.bits (x : Int) ^^^ BitVec.ofInt k.bits (y : Int)).toNat = x ^^^ y := by
      rw [BitVec.toNat_xor]
      simp [Nat.mod_eq_of_lt hx, Nat.mod_eq_of_lt hy]
    rw [e, wrap_of_inR hin]
    simp
  case shr =>
    obtain ⟨⟨h1, h2, h3⟩, h4⟩ := h
    refine ⟨.int k (a / 2 ^ b.toNat), _, fun w => ?_, fun _ _ _ => rd_int.2 rfl, h4⟩
    have hm : min b.toNat k.bits = b.toNat := by cases k <;> simp [IntKind.bits] <;> omega
    have hnn : ¬ b < 0 := by omega
    simp only [binOp, Op.shift, hnn, if_false, hm, Sem.run_pure]
    rw [Int.fdiv_eq_ediv_of_nonneg _ (by exact Int.le_of_lt (Int.pow_pos (by decide)))]
  all_goals
    first
      | exact h.elim
      | (obtain rfl : k = k' := by simpa using hk
         refine ⟨_, _, fun w => ?_, fun _ _ _ => rd_bool.2 rfl, h⟩
         simp [binOp, Op.intCmp, bne]
         try rfl)

theorem ok_bin {op : BinOp} {T T' : TypeId} {x y : Operand} {x' y' : Opd} (hop : o.op = .binOp op T x y T') (hx : dOpd x = some x') (hy : dOpd y = some y')
    (h : stepF P S (.bin op x' y') E c) : ∃ d, OpOK P S o E d ∧ c d := by
  simp only [stepF] at h
  unfold binD at h
  split at h
  · rename_i k a k' b e1 e2
    obtain ⟨hk, hb⟩ := h
    obtain ⟨u, d, h1, h2, h3⟩ := run_binI (P := P) (T := T) hk hb
    refine ⟨d, opOK_pure fun ρ I w ac hs he => ⟨u, ?_, h2 _ _ _⟩, h3⟩
    have g1 := dOpd_sound hx fun t ht => he t (slots_mem (by simp [hop, Op.operands, ht]))
    have g2 := dOpd_sound hy fun t ht => he t (slots_mem (by simp [hop, Op.operands, ht]))
    rw [e1, rd_int] at g1
    rw [e2, rd_int] at g2
    simp [execOp, hop, g1, g2, run_eqGuard_int, h1]
  · exact h.elim

theorem ok_beq {op : BinOp} {ng : Bool} {T T' : TypeId} {x y : Operand} {x' y' : Opd} (hop : o.op = .binOp op T x y T') (hx : dOpd x = some x') (hy : dOpd y = some y')
    (hT : P.underlying T = some .bool) (hng : op = if ng then .neq else .eql)
    (h : stepF P S (.beq ng x' y') E c) : ∃ d, OpOK P S o E d ∧ c d := by
  simp only [stepF] at h
  split at h
  · rename_i a b e1 e2
    refine ⟨_, opOK_pure fun ρ I w ac hs he => ⟨.bool (if ng then !(a == b) else a == b), ?_, rd_bool.2 rfl⟩, h⟩
    have g1 := dOpd_sound hx fun t ht => he t (slots_mem (by simp [hop, Op.operands, ht]))
    have g2 := dOpd_sound hy fun t ht => he t (slots_mem (by simp [hop, Op.operands, ht]))
    rw [e1, rd_bool] at g1
    rw [e2, rd_bool] at g2
    have he : ∀ n, (Op.equalIn (n + 1) T (.bool a) (.bool b)).run P w = .ok (a == b) w := fun n => by
      simp [Op.equalIn, run_underlying hT]
    cases ng <;> subst hng <;> simp [execOp, hop, g1, g2, run_eqGuard_bool, binOp, Op.equal, Op.maxDepth, he]
  · exact h.elim

def pairOK (P : Program) (T : TypeId) : Bool :=
  match P.underlying T with
  | some (.struct fs) => match fs.toList with
    | [f0, f1] => f0.name != "_" && f1.name != "_" && f0.offset == 0 && f1.offset == 1 &&
      (match P.underlying f0.type with | some (.int _) => true | _ => false) && (match P.underlying f1.type with | some (.int _) => true | _ => false) &&
      !P.stoodInHeld T && !P.eqGuardType P.depth T
    | _ => false
  | _ => false

theorem isInt_of {P : Program} {t : TypeId} (h : (match P.underlying t with | some (.int _) => true | _ => false) = true) : ∃ k, P.underlying t = some (.int k) := by
  split at h
  · rename_i k hk; exact ⟨k, hk⟩
  · simp at h

theorem cells_two {ρ : Rho} {I : Nat → Prop} {w : World} {v : Value} {d : D} {k l : IntKind} {a b : Int} (hd : RD ρ I w v d) (h : cellsD d = some [.pv (.int k a), .pv (.int l b)]) :
    v = .agg #[.int k a, .int l b] := by
  cases d with
  | agg cs =>
    simp [cellsD] at h; subst h
    obtain ⟨vs, rfl, h1, h2⟩ := rd_dagg.1 hd
    match vs, h1 with
    | [x, y], _ =>
      have e1 := h2 0 (by simp) (by simp)
      have e2 := h2 1 (by simp) (by simp)
      simp [R1, R0] at e1 e2
      cases e1; cases e2; rfl
  | pv p =>
    cases p with
    | agg ps =>
      simp [cellsD] at h
      obtain ⟨vs, rfl, h1⟩ := rd_agg.1 hd
      match ps, h with
      | [p, q], h =>
        simp at h
        obtain ⟨rfl, rfl⟩ := h
        obtain ⟨h3, h4⟩ := rc_agg h1
        match vs, h3 with
        | [x, y], _ =>
          have e1 := h4 0 (by simp) (by simp)
          have e2 := h4 1 (by simp) (by simp)
          simp at e1 e2
          cases e1; cases e2; rfl
    | _ => simp [cellsD] at h
  | _ => simp [cellsD] at h

theorem ok_peq {op : BinOp} {ng : Bool} {T T' : TypeId} {x y : Operand} {x' y' : Opd} (hop : o.op = .binOp op T x y T') (hx : dOpd x = some x') (hy : dOpd y = some y')
    (hT : pairOK P T = true) (hng : op = if ng then .neq else .eql)
    (h : stepF P S (.peq ng x' y') E c) : ∃ d, OpOK P S o E d ∧ c d := by
  simp only [stepF] at h
  split at h
  · rename_i k a l b k' a' l' b' e1 e2
    obtain ⟨⟨rfl, rfl⟩, h⟩ := h
    refine ⟨_, opOK_pure fun ρ I w ac hs he => ⟨.bool (if ng then !(decide (a = a') && decide (b = b')) else decide (a = a') && decide (b = b')), ?_, rd_bool.2 rfl⟩, h⟩
    have g1 := cells_two (dOpd_sound hx fun t ht => he t (slots_mem (by simp [hop, Op.operands, ht]))) e1
    have g2 := cells_two (dOpd_sound hy fun t ht => he t (slots_mem (by simp [hop, Op.operands, ht]))) e2
    unfold pairOK at hT
    split at hT
    · rename_i fs hu
      split at hT
      · rename_i f0 f1 hfs
        simp only [Bool.and_eq_true, bne_iff_ne, ne_eq, beq_iff_eq, Bool.not_eq_true'] at hT
        obtain ⟨⟨⟨⟨⟨⟨⟨n0, n1⟩, o0⟩, o1⟩, i0⟩, i1⟩, hst⟩, hgt⟩ := hT
        obtain ⟨k0, u0⟩ := isInt_of i0
        obtain ⟨k1, u1⟩ := isInt_of i1
        have hfo : P.fieldsOf T = fs := by simp [Program.fieldsOf, hu]
        have pt : ∀ (t : TypeId) (kk : IntKind) (cs : Array Value) (i : Nat) (v : Value), P.underlying t = some (.int kk) → cs[i]? = some v → (part t cs i).run P w = .ok v w := fun t kk cs i v hh hv => by
          simp [part, isAgg, run_underlying hh, hv]
        have q0 : (part f0.type #[.int k a, .int l b] 0).run P w = .ok (.int k a) w := pt _ _ _ _ _ u0 rfl
        have q1 : (part f1.type #[.int k a, .int l b] 1).run P w = .ok (.int l b) w := pt _ _ _ _ _ u1 rfl
        have q2 : (part f0.type #[.int k a', .int l b'] 0).run P w = .ok (.int k a') w := pt _ _ _ _ _ u0 rfl
        have q3 : (part f1.type #[.int k a', .int l b'] 1).run P w = .ok (.int l b') w := pt _ _ _ _ _ u1 rfl
        have EQ : (Op.equalIn 10000 T (.agg #[.int k a, .int l b]) (.agg #[.int k a', .int l b'])).run P w = .ok (decide (a = a') && decide (b = b')) w := by
          rw [run_equalIn_struct w 9999 T _ _ (by rw [hfo]; exact hu) hst, hfo, hfs]
          have e0 : (Op.equalIn 9999 f0.type (.int k a) (.int k a')).run P w = .ok (a == a') w := run_equalIn_int w 9998 f0.type k k0 a a' u0
          have e1 : (Op.equalIn 9999 f1.type (.int l b) (.int l b')).run P w = .ok (b == b') w := run_equalIn_int w 9998 f1.type l k1 b b' u1
          simp only [Op.eqFields, ne_eq, n0, n1, not_false_eq_true, if_true, o0, o1, Sem.run_bind, q0, q2, Result.andThen_ok, e0, Sem.run_ite, Sem.run_pure]
          by_cases ha : a = a'
          · subst ha
            by_cases hb : b = b'
            · subst hb; simp [q1, e1]
            · simp [q1, q3, e1, hb]
          · simp [ha]
        have hguard := run_eqGuard_agg (P := P) w op T x y #[.int k a, .int l b] #[.int k a', .int l b'] hgt
        have q4 := run_eql_struct (P := P) w T #[.int k a, .int l b] #[.int k a', .int l b']
        have q5 := run_neq_struct (P := P) w T #[.int k a, .int l b] #[.int k a', .int l b']
        rw [EQ] at q4 q5
        cases ng <;> subst hng
        · simp only [Bool.false_eq_true, if_false] at hguard ⊢
          simp only [execOp, hop, g1, g2, Sem.run_bind, hguard, Result.andThen_ok, if_false, Bool.false_eq_true, q4, Sem.run_pure]
        · simp only [if_true] at hguard ⊢
          simp only [execOp, hop, g1, g2, Sem.run_bind, hguard, Result.andThen_ok, if_true, q5, Sem.run_pure]
      · simp at hT
    · simp at hT
  · exact h.elim

theorem ok_not {x : Operand} {x' : Opd} {T : TypeId} (hop : o.op = .unOp .not T x) (hx : dOpd x = some x') (h : stepF P S (.not x') E c) : ∃ d, OpOK P S o E d ∧ c d := by
  simp only [stepF] at h
  split at h
  · rename_i t ht
    refine ⟨_, opOK_pure fun ρ I w ac hs he => ⟨.bool (!t), ?_, rd_bool.2 rfl⟩, h⟩
    have h1 := dOpd_sound hx fun t ht => he t (slots_mem (by simp [hop, Op.operands, ht]))
    rw [ht, rd_bool] at h1
    simp [execOp, hop, h1, Op.unary]
  · exact h.elim
theorem ok_neg {x : Operand} {x' : Opd} {T : TypeId} (hop : o.op = .unOp .neg T x) (hx : dOpd x = some x') (h : stepF P S (.neg x') E c) : ∃ d, OpOK P S o E d ∧ c d := by
  simp only [stepF] at h
  split at h
  · rename_i k n ht
    refine ⟨_, opOK_pure fun ρ I w ac hs he => ⟨.int k (-n), ?_, rd_int.2 rfl⟩, h.2⟩
    have h1 := dOpd_sound hx fun t ht => he t (slots_mem (by simp [hop, Op.operands, ht]))
    rw [ht, rd_int] at h1
    have := wrap_of_inR h.1
    simp [execOp, hop, h1, Op.unary, Op.intArith, this]
  · exact h.elim
theorem ok_conv {x : Operand} {x' : Opd} {T T' : TypeId} {td : TypeDesc} {k : IntKind} (hop : o.op = .convert T T' x) (hx : dOpd x = some x') (hT : P.underlying T = some td) (hT' : P.underlying T' = some (.int k))
    (h : stepF P S (.conv k x') E c) : ∃ d, OpOK P S o E d ∧ c d := by
  simp only [stepF] at h
  split at h
  · rename_i k0 n ht
    refine ⟨_, opOK_pure fun ρ I w ac hs he => ⟨.int k n, ?_, rd_int.2 rfl⟩, h.2⟩
    have h1 := dOpd_sound hx fun t ht => he t (slots_mem (by simp [hop, Op.operands, ht]))
    rw [ht, rd_int] at h1
    have := wrap_of_inR h.1
    simp [execOp, hop, h1, convert, run_underlying hT, run_underlying hT', Conv.intToInt, this]
  · exact h.elim

theorem ok_len {x : Operand} {x' : Opd} {T : TypeId} {e : TypeId} {ats : Array TypeId} (hop : o.op = .call { callee := .builtin .len, args := #[x], argTypes := ats }) (hT0 : ats[0]? = some T)
    (hT : P.underlying T = some (.slice e)) (hx : dOpd x = some x')
    (h : stepF P S (.len x') E c) : ∃ d, OpOK P S o E d ∧ c d := by
  simp only [stepF] at h
  have main : ∀ (ρ : Rho) (I : Nat → Prop) (w : World) (ac : Act), (∀ t ∈ Oper.slots o, RD ρ I w (ac.tmps.getD t Go.undef) (E t)) →
      RD ρ I w (ac.eval x) (ev E x') ∧ ∀ a n cap, ac.eval x = .slice a n cap → (execOp ac.eval o).run P w = .ok (.value (.int .i64 n)) w := fun ρ I w ac he =>
    ⟨dOpd_sound hx fun t ht => he t (slots_mem (by simp [hop, Op.operands, Call.operands, ht])), fun a n cap hv => by
      simp [execOp, hop, resolve, invoke, builtin, Builtin.len_, hv, run_underlying hT, hT0, goInt]⟩
  split at h
  · rename_i xs hxs
    refine ⟨_, opOK_pure fun ρ I w ac hs he => ?_, h⟩
    obtain ⟨h1, h2⟩ := main ρ I w ac he
    rw [hxs] at h1
    obtain ⟨a, cap, h3, _⟩ := rd_sl' h1
    exact ⟨_, h2 _ _ _ h3, rd_int.2 rfl⟩
  · rename_i hxs
    refine ⟨_, opOK_pure fun ρ I w ac hs he => ?_, h⟩
    obtain ⟨h1, h2⟩ := main ρ I w ac he
    rw [hxs, rd_nils] at h1
    obtain ⟨a, h3⟩ := h1
    exact ⟨_, h2 _ _ _ h3, rd_int.2 rfl⟩
  · rename_i o' n hxs
    refine ⟨_, opOK_pure fun ρ I w ac hs he => ?_, h⟩
    obtain ⟨h1, h2⟩ := main ρ I w ac he
    rw [hxs, rd_own] at h1
    obtain ⟨b, sz, cap, cs, E', _, h3, _⟩ := h1
    exact ⟨_, h2 _ _ _ h3, rd_int.2 rfl⟩
  · rename_i o' off n cap hxs
    refine ⟨_, opOK_pure fun ρ I w ac hs he => ?_, h⟩
    obtain ⟨h1, h2⟩ := main ρ I w ac he
    rw [hxs, rd_sub] at h1
    obtain ⟨b, sz, cs, E', _, h3, _⟩ := h1
    exact ⟨_, h2 _ _ _ h3, rd_int.2 rfl⟩
  · exact h.elim

theorem ok_cap {x : Operand} {x' : Opd} {T : TypeId} {e : TypeId} {ats : Array TypeId} (hop : o.op = .call { callee := .builtin .cap, args := #[x], argTypes := ats }) (hT0 : ats[0]? = some T)
    (hT : P.underlying T = some (.slice e)) (hx : dOpd x = some x')
    (h : stepF P S (.cap x') E c) : ∃ d, OpOK P S o E d ∧ c d := by
  simp only [stepF] at h
  split at h
  · rename_i o' off n cap hxs
    refine ⟨_, opOK_pure fun ρ I w ac hs he => ?_, h⟩
    have h1 := dOpd_sound (ρ := ρ) (I := I) (w := w) (a := ac) hx fun t ht => he t (slots_mem (by simp [hop, Op.operands, Call.operands, ht]))
    rw [hxs, rd_sub] at h1
    obtain ⟨b, sz, cs, E', _, h3, _⟩ := h1
    exact ⟨.int .i64 cap, by simp [execOp, hop, resolve, invoke, builtin, Builtin.cap_, h3, run_underlying hT, hT0, goInt], rd_int.2 rfl⟩
  · rename_i hxs
    refine ⟨_, opOK_pure fun ρ I w ac hs he => ?_, h⟩
    have h1 := dOpd_sound (ρ := ρ) (I := I) (w := w) (a := ac) hx fun t ht => he t (slots_mem (by simp [hop, Op.operands, Call.operands, ht]))
    rw [hxs, rd_nils] at h1
    obtain ⟨a, h3⟩ := h1
    exact ⟨.int .i64 0, by simp [execOp, hop, resolve, invoke, builtin, Builtin.cap_, h3, run_underlying hT, hT0, goInt], rd_int.2 rfl⟩
  · exact h.elim

theorem ok_mx {x y : Operand} {x' y' : Opd} {ats : Array TypeId} (hop : o.op = .call { callee := .builtin .max, args := #[x, y], argTypes := ats })
    (hx : dOpd x = some x') (hy : dOpd y = some y') (h : stepF P S (.mx x' y') E c) : ∃ d, OpOK P S o E d ∧ c d := by
  simp only [stepF] at h
  split at h
  · rename_i k a k' b e1 e2
    refine ⟨_, opOK_pure fun ρ I w ac hs he => ⟨.int k (max a b), ?_, rd_int.2 rfl⟩, h⟩
    have g1 := dOpd_sound hx fun t ht => he t (slots_mem (by simp [hop, Op.operands, Call.operands, ht]))
    have g2 := dOpd_sound hy fun t ht => he t (slots_mem (by simp [hop, Op.operands, Call.operands, ht]))
    rw [e1, rd_int] at g1
    rw [e2, rd_int] at g2
    simp [execOp, hop, resolve, invoke, builtin, Builtin.max_, Builtin.max2, g1, g2]
    split <;> omega
  · exact h.elim
theorem ok_mn {x y : Operand} {x' y' : Opd} {ats : Array TypeId} (hop : o.op = .call { callee := .builtin .min, args := #[x, y], argTypes := ats })
    (hx : dOpd x = some x') (hy : dOpd y = some y') (h : stepF P S (.mn x' y') E c) : ∃ d, OpOK P S o E d ∧ c d := by
  simp only [stepF] at h
  split at h
  · rename_i k a k' b e1 e2
    refine ⟨_, opOK_pure fun ρ I w ac hs he => ⟨.int k (min a b), ?_, rd_int.2 rfl⟩, h⟩
    have g1 := dOpd_sound hx fun t ht => he t (slots_mem (by simp [hop, Op.operands, Call.operands, ht]))
    have g2 := dOpd_sound hy fun t ht => he t (slots_mem (by simp [hop, Op.operands, Call.operands, ht]))
    rw [e1, rd_int] at g1
    rw [e2, rd_int] at g2
    simp [execOp, hop, resolve, invoke, builtin, Builtin.min_, Builtin.min2, g1, g2]
    split <;> omega
  · exact h.elim

theorem ok_nilc {x : Operand} {x' : Opd} (hop : o.op = .nilCheck x) (hx : dOpd x = some x') (h : stepF P S (.nilc x') E c) : ∃ d, OpOK P S o E d ∧ c d := by
  simp only [stepF] at h
  have main : ∀ (ρ : Rho) (I : Nat → Prop) (w : World) (ac : Act), (∀ t ∈ Oper.slots o, RD ρ I w (ac.tmps.getD t Go.undef) (E t)) →
      RD ρ I w (ac.eval x) (ev E x') := fun ρ I w ac he => dOpd_sound hx fun t ht => he t (slots_mem (by simp [hop, Op.operands, ht]))
  split at h
  · rename_i p hp
    refine ⟨_, opOK_pure fun ρ I w ac hs he => ?_, h⟩
    have h1 := main ρ I w ac he
    rw [hp] at h1
    obtain ⟨b, off, vs, h2, _⟩ := rd_con h1
    exact ⟨ac.eval x, by simp [execOp, hop, h2], h1⟩
  · rename_i o' i j hp
    refine ⟨_, opOK_pure fun ρ I w ac hs he => ?_, h⟩
    have h1 := main ρ I w ac he
    rw [hp] at h1
    obtain ⟨b, sz, _, h2⟩ := rd_ptr.1 h1
    exact ⟨ac.eval x, by simp [execOp, hop, h2], h1⟩
  · rename_i f ps hp
    refine ⟨_, opOK_pure fun ρ I w ac hs he => ?_, h⟩
    have h1 := main ρ I w ac he
    rw [hp] at h1
    have h3 := (rd_pv rfl).1 h1
    generalize hv : ac.eval x = v at *
    cases h3
    exact ⟨_, by simp [execOp, hop, hv], h1⟩
  · rename_i f ps hp
    refine ⟨_, opOK_pure fun ρ I w ac hs he => ?_, h⟩
    have h1 := main ρ I w ac he
    rw [hp] at h1
    have h3 : R1 ρ I w (ac.eval x) (.clo f ps) := h1
    obtain ⟨vs, h2, _⟩ := h3
    exact ⟨ac.eval x, by simp [execOp, hop, h2], h1⟩
  · exact h.elim

end ops
end Go.V

namespace Go.V

theorem Addr.add_none (b off n : Nat) : (⟨b, off, none⟩ : Addr).add n = ⟨b, off + n, none⟩ := by
  unfold Addr.add; split <;> simp_all

theorem cellsAt_one {w : World} {b o : Nat} {vs : List Value} (h : CellsAt w b o vs) (i : Nat) (hi : i < vs.length) : CellsAt w b (o + i) [vs[i]] := by
  intro j hj
  have : j = 0 := by simpa using hj
  subst this
  exact h i hi
theorem cellsAt_part {w : World} {b o : Nat} {vs : List Value} (h : CellsAt w b o vs) (off n : Nat) (hn : off + n ≤ vs.length) : CellsAt w b (o + off) ((vs.drop off).take n) := by
  intro j hj
  have hj' : j < n ∧ off + j < vs.length := by simp at hj; omega
  have := h (off + j) hj'.2
  rw [Nat.add_assoc]
  rw [this]
  simp

section loads
variable {P : Program} {w : World}
theorem run_load_cell {a : Addr} {v : Value} (h : w.cell? a = some v) : (load a).run P w = .ok v w := by rw [run_load]; simp [h]
theorem run_loadCellsFrom {b o : Nat} : ∀ (vs : List Value) (i : Nat) (acc : Array Value), CellsAt w b (o + i) vs →
    (loadCellsFrom ⟨b, o, none⟩ i vs.length acc).run P w = .ok (acc ++ vs.toArray) w
  | [], i, acc, _ => by simp [loadCellsFrom]
  | v :: vs, i, acc, h => by
    have h0 : w.cell? ⟨b, o + i, none⟩ = some v := by have := h 0 (by simp); simpa using this
    have h1 : CellsAt w b (o + (i + 1)) vs := fun j hj => by
      have := h (j + 1) (by simpa using hj)
      simp only [List.getElem_cons_succ] at this
      rw [← this]; congr 2; omega
    simp only [List.length_cons, loadCellsFrom, Sem.run_bind, Addr.add_none, run_load_cell h0, Result.andThen_ok]
    rw [run_loadCellsFrom vs (i + 1) (acc.push v) h1]
    simp
theorem run_loadCells {b o : Nat} {vs : List Value} (h : CellsAt w b o vs) : (loadCells ⟨b, o, none⟩ vs.length).run P w = .ok vs.toArray w := by
  unfold loadCells
  rw [run_loadCellsFrom vs 0 #[] (by simpa using h)]
  simp

def aggT (P : Program) (t : TypeId) : Option Bool :=
  match P.underlying t with
  | some (.struct _) => some true
  | some (.array _ _) => some true
  | some _ => some false
  | none => none
def szT (P : Program) (t : TypeId) : Option Nat := (P.info? t).map (·.size)

theorem run_isAgg {t : TypeId} {b : Bool} (h : aggT P t = some b) (w : World) : (isAgg t).run P w = .ok b w := by
  unfold aggT at h
  split at h <;> simp at h <;> subst h <;> simp_all [isAgg, run_underlying]
theorem run_sizeOf' {t : TypeId} {n : Nat} (h : szT P t = some n) (w : World) : (sizeOf t).run P w = .ok n w := by
  simp only [szT, Option.map_eq_some_iff] at h
  obtain ⟨i, h1, h2⟩ := h
  simp [sizeOf, typeInfo, h1, h2]

theorem run_loadVar {t : TypeId} {b o : Nat} {vs : List Value} {agg : Bool} (ha : aggT P t = some agg) (hs : szT P t = some vs.length) (h : CellsAt w b o vs)
    (h1 : agg = false → vs.length = 1) : (loadVar t ⟨b, o, none⟩).run P w = .ok (if agg then .agg vs.toArray else vs.headD Go.undef) w := by
  unfold loadVar
  simp only [Sem.run_bind, run_isAgg ha, Result.andThen_ok]
  cases agg with
  | true => simp [run_sizeOf' hs, run_loadCells h]
  | false =>
    match vs, h1 rfl with
    | [v], _ =>
      have h0 : w.cell? ⟨b, o, none⟩ = some v := by have := h 0 (by simp); simpa using this
      simp [run_load_cell h0]
end loads

def valOf (agg : Bool) (vs : List Value) : Value := if agg then .agg vs.toArray else vs.headD Go.undef
theorem rd_valOf_pv {ρ : Rho} {I : Nat → Prop} {w : World} {vs : List Value} {p : PV} (h : RC I w vs p) : RD ρ I w (valOf (isAggP p) vs) (.pv p) := by
  by_cases hp : isAggP p = true
  · cases p <;> simp [isAggP] at hp
    exact rd_agg.2 ⟨vs, by simp [valOf, isAggP], h⟩
  · have hp : isAggP p = false := by simpa using hp
    rw [rd_pv hp, hp]
    have := h.len
    have hn : p.nc = 1 := by cases p <;> simp [isAggP] at hp <;> rfl
    match vs, this.trans hn with
    | [v], _ => exact h

section ops
variable {P : Program} {S : Store} {o : Oper} {E : Env} {c : D → Prop}

theorem ok_idx {T e : TypeId} {x i : Operand} {x' i' : Opd} {sz : Nat} (hop : o.op = .indexAddr T x i) (hT : P.underlying T = some (.slice e)) (hs : szT P e = some sz)
    (hx : dOpd x = some x') (hi : dOpd i = some i') (h : stepF P S (.idx sz x' i') E c) : ∃ d, OpOK P S o E d ∧ c d := by
  simp only [stepF] at h
  split at h
  · rename_i xs k n e1 e2
    obtain ⟨hn0, hn, hsz, hc⟩ := h
    refine ⟨_, opOK_pure fun ρ I w ac hst he => ?_, hc⟩
    have g1 := dOpd_sound hx fun t ht => he t (slots_mem (by simp [hop, Op.operands, ht]))
    have g2 := dOpd_sound hi fun t ht => he t (slots_mem (by simp [hop, Op.operands, ht]))
    rw [e1] at g1
    rw [e2, rd_int] at g2
    rcases rd_sl g1 with ⟨rfl, _⟩ | ⟨b, off, cap, sz', vs, hv, h1, h2, h3, h4, h5, h6⟩
    · simp at hn
    · have hl := h4 n.toNat hn
      have := (h6 n.toNat hn).len
      rw [hl, hsz] at this
      subst this
      refine ⟨.pointer (some ⟨b, off + n.toNat * sz', none⟩), ?_, (rd_pv rfl).2 (.con b _ (vs n.toNat) _ h3 (h5 _ hn) (h6 _ hn))⟩
      have hlt : n < (xs.length : Int) := by omega
      simp [execOp, hop, Instr.indexAt, g2, hv, asIntOf, run_underlying hT, hn0, hlt, run_sizeOf' hs, Addr.add_none]
  · rename_i o' m k n e1 e2
    obtain ⟨⟨hn0, hn, ob, hob, hsz⟩, hc⟩ := h
    refine ⟨_, opOK_pure fun ρ I w ac hst he => ?_, hc⟩
    have g1 := dOpd_sound hx fun t ht => he t (slots_mem (by simp [hop, Op.operands, ht]))
    have g2 := dOpd_sound hi fun t ht => he t (slots_mem (by simp [hop, Op.operands, ht]))
    rw [e1, rd_own] at g1
    rw [e2, rd_int] at g2
    obtain ⟨b, sz', cap, cs, E', h1, hv, h2, h3, h4, h5⟩ := g1
    obtain ⟨b', sz'', h6, h7, _⟩ := hst.obs o' ob hob
    rw [h1] at h6
    simp at h6
    obtain ⟨rfl, rfl⟩ := h6
    have : sz' = sz := by rw [h7, hsz]
    subst this
    refine ⟨.pointer (some ⟨b, n.toNat * sz', none⟩), ?_, rd_ptr.2 ⟨b, sz', h1, rfl⟩⟩
    have hlt : n < (m : Int) := by omega
    simp [execOp, hop, Instr.indexAt, g2, hv, asIntOf, run_underlying hT, hn0, hlt, run_sizeOf' hs, Addr.add_none]
  · exact h.elim

theorem ok_aidx {T e : TypeId} {len : Nat} {x i : Operand} {x' i' : Opd} {sz : Nat} (hop : o.op = .indexAddr T x i) (hT : P.underlying T = some (.array len e)) (hs : szT P e = some sz)
    (hx : dOpd x = some x') (hi : dOpd i = some i') (h : stepF P S (.aidx len sz x' i') E c) : ∃ d, OpOK P S o E d ∧ c d := by
  simp only [stepF] at h
  split at h
  · rename_i cs k n e1 e2
    obtain ⟨⟨hn0, hn, hsz⟩, hl, hc⟩ := h
    subst hsz
    refine ⟨_, opOK_pure fun ρ I w ac hst he => ?_, hc⟩
    have g1 := dOpd_sound hx fun t ht => he t (slots_mem (by simp [hop, Op.operands, ht]))
    have g2 := dOpd_sound hi fun t ht => he t (slots_mem (by simp [hop, Op.operands, ht]))
    rw [e1] at g1
    rw [e2, rd_int] at g2
    obtain ⟨b, off, vs, hv, h1, h2, h3⟩ := rd_con g1
    obtain ⟨h4, h5⟩ := rc_agg h3
    have hl' : n.toNat < vs.length := by omega
    refine ⟨.pointer (some ⟨b, off + n.toNat, none⟩), ?_, (rd_pv rfl).2 (.con b _ [vs[n.toNat]] _ h1 (cellsAt_one h2 _ hl') (h5 _ hl' hl))⟩
    simp [execOp, hop, Instr.indexAt, g2, hv, asIntOf, Instr.sureAddr, run_underlying hT, hn0, hn, run_sizeOf' hs, Addr.add_none]
  · rename_i o' a b' k n e1 e2
    obtain ⟨⟨hn0, hn⟩, hc⟩ := h
    refine ⟨_, opOK_pure fun ρ I w ac hst he => ?_, hc⟩
    have g1 := dOpd_sound hx fun t ht => he t (slots_mem (by simp [hop, Op.operands, ht]))
    have g2 := dOpd_sound hi fun t ht => he t (slots_mem (by simp [hop, Op.operands, ht]))
    rw [e1, rd_ptr] at g1
    rw [e2, rd_int] at g2
    obtain ⟨b, sz', h1, hv⟩ := g1
    refine ⟨.pointer (some ⟨b, a * sz' + (b' + n.toNat * sz), none⟩), ?_, rd_ptr.2 ⟨b, sz', h1, rfl⟩⟩
    simp [execOp, hop, Instr.indexAt, g2, hv, asIntOf, Instr.sureAddr, run_underlying hT, hn0, hn, run_sizeOf' hs, Addr.add_none, Nat.add_assoc]
  · exact h.elim

theorem ok_fld {T : TypeId} {fs : Array Field} {f : Nat} {fd : Field} {x : Operand} {x' : Opd} {sz : Nat} {agg : Bool} (hop : o.op = .fieldAddr T x f) (hT : P.underlying T = some (.struct fs))
    (hf : fs[f]? = some fd) (hs : szT P fd.type = some sz) (h0 : sz ≠ 0) (h1 : agg = false → sz = 1) (hx : dOpd x = some x') (h : stepF P S (.fld fd.offset sz agg x') E c) : ∃ d, OpOK P S o E d ∧ c d := by
  simp only [stepF] at h
  split at h
  · rename_i cs e1
    -- the value depends on nothing but cs
    have key : ∃ p, c (.pv (.con p)) ∧ ∀ (I : Nat → Prop) (w : World) (vs : List Value), RC I w vs (.agg cs) → fd.offset + sz ≤ vs.length ∧ RC I w ((vs.drop fd.offset).take sz) p := by
      unfold fldP at h
      cases agg with
      | true =>
        simp only [if_true] at h
        refine ⟨_, h.2, fun I w vs hr => ?_⟩
        obtain ⟨h3, h4⟩ := rc_agg hr
        refine ⟨by omega, .agg _ _ (by simp; omega) fun i hi hi' => ?_⟩
        have := h4 (fd.offset + i) (by simp at hi; omega) (by simp at hi'; omega)
        simpa using this
      | false =>
        simp only [Bool.false_eq_true, if_false] at h
        obtain ⟨ho, hc⟩ := h
        have := h1 rfl
        subst this
        refine ⟨_, hc, fun I w vs hr => ?_⟩
        obtain ⟨h3, h4⟩ := rc_agg hr
        have hv : fd.offset < vs.length := by omega
        have he : (vs.drop fd.offset).take 1 = [vs[fd.offset]] := by rw [List.drop_eq_getElem_cons hv]; rfl
        exact ⟨by omega, by rw [he]; exact h4 _ hv ho⟩
    obtain ⟨p, hc, hk⟩ := key
    refine ⟨_, opOK_pure fun ρ I w ac hst he => ?_, hc⟩
    have g1 := dOpd_sound hx fun t ht => he t (slots_mem (by simp [hop, Op.operands, ht]))
    rw [e1] at g1
    obtain ⟨b, off, vs, hv, h2, h3, h4⟩ := rd_con g1
    obtain ⟨h5, h6⟩ := hk I w vs h4
    refine ⟨.pointer (some ⟨b, off + fd.offset, none⟩), ?_, (rd_pv rfl).2 (.con b _ _ _ h2 (cellsAt_part h3 _ _ h5) h6)⟩
    simp [execOp, hop, Instr.fieldAt, run_underlying hT, hf, hv, Instr.sureAddr, fieldPlace, run_sizeOf' hs, h0, Addr.add_none]
  · rename_i o' i j e1
    refine ⟨_, opOK_pure fun ρ I w ac hst he => ?_, h⟩
    have g1 := dOpd_sound hx fun t ht => he t (slots_mem (by simp [hop, Op.operands, ht]))
    rw [e1, rd_ptr] at g1
    obtain ⟨b, sz', h2, hv⟩ := g1
    refine ⟨.pointer (some ⟨b, i * sz' + (j + fd.offset), none⟩), ?_, rd_ptr.2 ⟨b, sz', h2, rfl⟩⟩
    simp [execOp, hop, Instr.fieldAt, run_underlying hT, hf, hv, Instr.sureAddr, fieldPlace, run_sizeOf' hs, h0, Addr.add_none, Nat.add_assoc]
  · exact h.elim

theorem ok_ext {x : Operand} {i : Nat} {x' : Opd} (hop : o.op = .extract x i) (hx : dOpd x = some x') (h : stepF P S (.ext x' i) E c) : ∃ d, OpOK P S o E d ∧ c d := by
  simp only [stepF] at h
  split at h
  · rename_i ds e1
    obtain ⟨hi, hc⟩ := h
    refine ⟨_, opOK_pure fun ρ I w ac hst he => ?_, hc⟩
    have g1 := dOpd_sound hx fun t ht => he t (slots_mem (by simp [hop, Op.operands, ht]))
    rw [e1] at g1
    simp only [RD] at g1
    obtain ⟨vs, hv, h1, h2⟩ := g1
    have hi' : i < vs.length := by omega
    refine ⟨vs[i], by simp [execOp, hop, Instr.extract, hv, hi'], ?_⟩
    have := h2 i hi' hi
    generalize ds[i] = d at *
    cases d <;> first | exact this | (simp [RS, R1, R0] at this)
  · exact h.elim

theorem headD_drop (vs : List Value) (j : Nat) (hj : j < vs.length) : ((vs.drop j).take 1) = [vs[j]] := by
  rw [List.drop_eq_getElem_cons hj]; rfl

theorem rdc_cells {ρ : Rho} {I : Nat → Prop} {w : World} {vs : List Value} {d : D} {cs : List D} (h : RDc ρ I w vs d) (hcs : cellsD d = some cs) :
    vs.length = cs.length ∧ ∀ i (h : i < vs.length) (h' : i < cs.length), R1 ρ I w vs[i] cs[i] := by
  cases d with
  | agg ds => simp [cellsD] at hcs; subst hcs; exact h
  | pv p =>
    cases p with
    | agg ps =>
      simp [cellsD] at hcs; subst hcs
      obtain ⟨h1, h2⟩ := rc_agg h
      refine ⟨by simpa using h1, fun i hi hi' => ?_⟩
      have := h2 i hi (by simpa using hi')
      simpa [R1, R0] using this
    | tup ps => simp [cellsD] at hcs
    | _ =>
      simp [cellsD] at hcs; subst hcs
      have hl := RC.len h
      simp only [PV.nc] at hl
      match vs, hl with
      | [v], _ => exact ⟨rfl, fun i hi hi' => by
          have : i = 0 := by simpa using hi
          subst this
          exact h⟩
  | tup ds => simp [cellsD] at hcs
  | undef => simp [cellsD] at hcs
  | any => simp [cellsD] at hcs
  | _ =>
    simp [cellsD] at hcs; subst hcs
    obtain ⟨v, rfl, h⟩ := h
    exact ⟨rfl, fun i hi hi' => by
      have : i = 0 := by simpa using hi
      subst this
      exact h⟩

theorem rd_of_r1' {ρ : Rho} {I : Nat → Prop} {w : World} {v : Value} {d : D} (h : R1 ρ I w v d) (hd : isOne d = true) : RD ρ I w v d := by
  cases d with
  | pv p => cases p <;> first | (simp [isOne] at hd; done) | exact h
  | agg cs => simp [isOne] at hd
  | tup ds => simp [isOne] at hd
  | _ => exact h

theorem fldD_key {d0 : D} {cs : List D} {j sz : Nat} {agg : Bool} (hcs : cellsD d0 = some cs) (h1 : agg = false → sz = 1) (h : fldD j sz agg cs c) :
    ∃ d, c d ∧ ∀ (ρ : Rho) (I : Nat → Prop) (w : World) (vs : List Value), RDc ρ I w vs d0 → vs.length = cs.length ∧ j + sz ≤ vs.length ∧ RD ρ I w (valOf agg ((vs.drop j).take sz)) d := by
  unfold fldD at h
  cases agg with
  | true =>
    simp only [if_true] at h
    refine ⟨_, h.2, fun ρ I w vs hr => ?_⟩
    obtain ⟨h2, h3⟩ := rdc_cells hr hcs
    refine ⟨h2, by omega, rd_dagg.2 ⟨(vs.drop j).take sz, by simp [valOf], by simp; omega, fun i hi hi' => ?_⟩⟩
    have := h3 (j + i) (by simp at hi; omega) (by simp at hi'; omega)
    simpa using this
  | false =>
    simp only [Bool.false_eq_true, if_false] at h
    obtain ⟨hj, ho, hc⟩ := h
    have := h1 rfl
    subst this
    refine ⟨_, hc, fun ρ I w vs hr => ?_⟩
    obtain ⟨h2, h3⟩ := rdc_cells hr hcs
    have hv : j < vs.length := by omega
    refine ⟨h2, by omega, ?_⟩
    rw [headD_drop vs j hv]
    exact rd_of_r1' (h3 j hv hj) ho

theorem ok_part {T : TypeId} {fs : Array Field} {f : Nat} {fd : Field} {x : Operand} {x' : Opd} {sz : Nat} {agg : Bool} (hop : o.op = .field T x f) (hT : P.underlying T = some (.struct fs))
    (hf : fs[f]? = some fd) (hs : szT P fd.type = some sz) (ha : aggT P fd.type = some agg) (h1 : agg = false → sz = 1) (hx : dOpd x = some x') (h : stepF P S (.part fd.offset sz agg x') E c) : ∃ d, OpOK P S o E d ∧ c d := by
  simp only [stepF] at h
  have main : ∀ (w : World) (ac : Act) (vs : List Value), ac.eval x = .agg vs.toArray → fd.offset + sz ≤ vs.length →
      (execOp ac.eval o).run P w = .ok (.value (valOf agg ((vs.drop fd.offset).take sz))) w := fun w ac vs hv hl => by
    cases agg with
    | true =>
      simp [execOp, hop, Instr.field, run_underlying hT, hf, hv, asAgg, part, run_isAgg ha, run_sizeOf' hs, valOf]
    | false =>
      have := h1 rfl
      subst this
      have hl' : fd.offset < vs.length := by omega
      simp [execOp, hop, Instr.field, run_underlying hT, hf, hv, asAgg, part, run_isAgg ha, valOf, headD_drop vs _ hl', hl']
  split at h
  · rename_i cs e1
    obtain ⟨d, hc, hk⟩ := fldD_key (agg := agg) (d0 := .pv (.agg cs)) (by simp [cellsD]) h1 h
    refine ⟨d, opOK_pure fun ρ I w ac hst he => ?_, hc⟩
    have g1 := dOpd_sound hx fun t ht => he t (slots_mem (by simp [hop, Op.operands, ht]))
    rw [e1] at g1
    obtain ⟨vs, hv, h3⟩ := rd_agg.1 g1
    obtain ⟨_, h4, h5⟩ := hk ρ I w vs h3
    exact ⟨_, main w ac vs hv h4, h5⟩
  · rename_i cs e1
    obtain ⟨d, hc, hk⟩ := fldD_key (agg := agg) (d0 := .agg cs) (by simp [cellsD]) h1 h
    refine ⟨d, opOK_pure fun ρ I w ac hst he => ?_, hc⟩
    have g1 := dOpd_sound hx fun t ht => he t (slots_mem (by simp [hop, Op.operands, ht]))
    rw [e1] at g1
    obtain ⟨vs, hv, h3, h3'⟩ := rd_dagg.1 g1
    obtain ⟨_, h4, h5⟩ := hk ρ I w vs ⟨h3, h3'⟩
    exact ⟨_, main w ac vs hv h4, h5⟩
  · exact h.elim

theorem ok_load {T : TypeId} {x : Operand} {x' : Opd} {sz : Nat} {agg : Bool} (hop : o.op = .load T x) (hs : szT P T = some sz) (ha : aggT P T = some agg) (h1 : agg = false → sz = 1)
    (hx : dOpd x = some x') (h : stepF P S (.load sz agg x') E c) : ∃ d, OpOK P S o E d ∧ c d := by
  simp only [stepF] at h
  split at h
  · rename_i p e1
    obtain ⟨⟨hsz, hag⟩, hc⟩ := h
    refine ⟨_, opOK_pure fun ρ I w ac hst he => ?_, hc⟩
    have g1 := dOpd_sound hx fun t ht => he t (slots_mem (by simp [hop, Op.operands, ht]))
    rw [e1] at g1
    obtain ⟨b, off, vs, hv, h2, h3, h4⟩ := rd_con g1
    have hl := h4.len
    have hs' : szT P T = some vs.length := by rw [hs, hl, hsz]
    refine ⟨valOf (isAggP p) vs, ?_, rd_valOf_pv h4⟩
    have := run_loadVar (P := P) ha hs' h3 (fun e => by rw [hl, hsz]; exact h1 e)
    simp [execOp, hop, Instr.loadAt, hv, Instr.sureAddr, this, valOf, hag]
  · rename_i o' i j e1
    split at h
    · rename_i ob hob
      obtain ⟨hi, h⟩ := h
      split at h
      · rename_i cs hcs
        obtain ⟨hcl, h⟩ := h
        obtain ⟨d, hc, hk⟩ := fldD_key (agg := agg) hcs h1 h
        refine ⟨d, opOK_pure fun ρ I w ac hst he => ?_, hc⟩
        have g1 := dOpd_sound hx fun t ht => he t (slots_mem (by simp [hop, Op.operands, ht]))
        rw [e1, rd_ptr] at g1
        obtain ⟨b, sz', h2, hv⟩ := g1
        obtain ⟨b', sz'', h3, h4, cells, h5, h6, h7⟩ := hst.obs o' ob hob
        rw [h2] at h3
        simp at h3
        obtain ⟨rfl, rfl⟩ := h3
        have h8 := h7 i hi
        obtain ⟨h9, h10, h11⟩ := hk ρ I w _ h8
        have hlen : ((cells.toList.drop (i * sz')).take sz').length = cs.length := h9
        have hcell : CellsAt w b (i * sz') ((cells.toList.drop (i * sz')).take sz') := by
          intro q hq
          have hq' : q < sz' ∧ i * sz' + q < cells.size := by simp at hq; omega
          simp only [World.cell?, h5, Option.isSome_none, Bool.false_eq_true, if_false]
          rw [Array.getElem?_eq_getElem hq'.2]
          simp
        have hp := cellsAt_part hcell j sz h10
        have hs' : szT P T = some (((((cells.toList.drop (i * sz')).take sz').drop j).take sz)).length := by rw [hs]; congr 1; simp at h10 ⊢; omega
        refine ⟨_, ?_, h11⟩
        have := run_loadVar (P := P) ha hs' hp (fun e => by rw [hs] at hs'; simp only [Option.some.injEq] at hs'; rw [← hs']; exact h1 e)
        simp only [execOp, hop, Instr.loadAt, hv, Instr.sureAddr, Sem.run_bind, Sem.run_pure, Result.andThen_ok, this, valOf]
      · exact h.elim
    · exact h.elim
  · exact h.elim

end ops
end Go.V

namespace Go.V

theorem rd_rho {ρ ρ' : Rho} {I : Nat → Prop} {w : World} {v : Value} {p : PV} (h : RD ρ I w v (ofPV p)) : RD ρ' I w v (ofPV p) := by
  have one : ∀ (v : Value) (p : PV), RS ρ I w v (.pv p) → RS ρ' I w v (.pv p) := fun v p h => by
    cases p <;> exact h
  cases p with
  | tup ps =>
    simp only [ofPV, RD] at h ⊢
    obtain ⟨vs, h1, h2, h3⟩ := h
    refine ⟨vs, h1, h2, fun i hi hi' => ?_⟩
    have := h3 i hi hi'
    simp only [List.getElem_map] at this ⊢
    exact one _ _ this
  | agg ps => exact h
  | _ => exact h
theorem rd_pv_rho {ρ ρ' : Rho} {I : Nat → Prop} {w : World} {v : Value} {p : PV} (h : RD ρ I w v (.pv p)) : RD ρ' I w v (.pv p) := by
  cases p <;> exact h

section topv
variable {ρ : Rho} {I : Nat → Prop} {w : World}
theorem toPV0_sound {v : Value} {d : D} {p : PV} (h : toPV0 d = some p) (hd : R0 ρ I w v d) : RC I w [v] p ∧ isAggP p = false := by
  cases d with
  | pv q => cases q <;> simp [toPV0] at h <;> subst h <;> exact ⟨hd, rfl⟩
  | nils => simp [toPV0] at h; subst h; obtain ⟨a, rfl⟩ := hd; exact ⟨.sl0 a 0 (Nat.zero_le _), rfl⟩
  | _ => simp [toPV0] at h
theorem toPV0s_sound : ∀ {vs : List Value} {ds : List D} {ps : List PV}, toPV0s ds = some ps → vs.length = ds.length →
    (∀ i (h : i < vs.length) (h' : i < ds.length), R0 ρ I w vs[i] ds[i]) → vs.length = ps.length ∧ (∀ i (h : i < vs.length) (h' : i < ps.length), RC I w [vs[i]] ps[i]) ∧ ∀ p ∈ ps, isAggP p = false
  | vs, [], ps, h, hl, _ => by simp [toPV0s] at h; subst h; simp at hl; subst hl; simp
  | v :: vs, d :: ds, ps, h, hl, hr => by
    simp only [toPV0s] at h
    split at h <;> simp at h
    rename_i p ps' h1 h2
    subst h
    obtain ⟨h3, h4, h5⟩ := toPV0s_sound (vs := vs) h2 (by simpa using hl) (fun i hi hi' => by have := hr (i + 1) (by simpa using hi) (by simpa using hi'); simpa using this)
    have h6 := toPV0_sound h1 (hr 0 (by simp) (by simp))
    refine ⟨by simp [h3], fun i hi hi' => ?_, fun q hq => ?_⟩
    · cases i with
      | zero => exact h6.1
      | succ i => exact h4 i (by simpa using hi) (by simpa using hi')
    · rcases List.mem_cons.1 hq with rfl | hq
      · exact h6.2
      · exact h5 q hq
theorem toPV1_sound {v : Value} {d : D} {p : PV} (h : toPV1 d = some p) (hd : R1 ρ I w v d) : RC I w [v] p ∧ isAggP p = false := by
  cases d with
  | clo f caps =>
    simp only [toPV1, Option.map_eq_some_iff] at h
    obtain ⟨ps, h1, rfl⟩ := h
    obtain ⟨vs, rfl, h2, h3⟩ := hd
    obtain ⟨h4, h5, h6⟩ := toPV0s_sound h1 h2 h3
    exact ⟨.clo _ vs ps h4 h5 h6, rfl⟩
  | pv q => exact toPV0_sound (ρ := ρ) (d := .pv q) h hd
  | nils => exact toPV0_sound (ρ := ρ) (d := .nils) h hd
  | _ => simp [toPV1, toPV0] at h
theorem toPV1s_sound : ∀ {vs : List Value} {ds : List D} {ps : List PV}, toPV1s ds = some ps → vs.length = ds.length →
    (∀ i (h : i < vs.length) (h' : i < ds.length), R1 ρ I w vs[i] ds[i]) → vs.length = ps.length ∧ ∀ i (h : i < vs.length) (h' : i < ps.length), RC I w [vs[i]] ps[i]
  | vs, [], ps, h, hl, _ => by simp [toPV1s] at h; subst h; simp at hl; subst hl; simp
  | v :: vs, d :: ds, ps, h, hl, hr => by
    simp only [toPV1s] at h
    split at h <;> simp at h
    rename_i p ps' h1 h2
    subst h
    obtain ⟨h3, h4⟩ := toPV1s_sound (vs := vs) h2 (by simpa using hl) (fun i hi hi' => by have := hr (i + 1) (by simpa using hi) (by simpa using hi'); simpa using this)
    refine ⟨by simp [h3], fun i hi hi' => ?_⟩
    cases i with
    | zero => exact (toPV1_sound h1 (hr 0 (by simp) (by simp))).1
    | succ i => exact h4 i (by simpa using hi) (by simpa using hi')
theorem toPV_sound {v : Value} {d : D} {p : PV} (h : toPV d = some p) (hd : RD ρ I w v d) : RD [] I w v (.pv p) := by
  have single : ∀ d, toPV1 d = some p → R1 ρ I w v d → RD [] I w v (.pv p) := fun d h h' =>
    have := toPV1_sound h h'
    (rd_pv this.2).2 this.1
  cases d with
  | agg cs =>
    simp only [toPV, Option.map_eq_some_iff] at h
    obtain ⟨ps, h1, rfl⟩ := h
    obtain ⟨vs, rfl, h2, h3⟩ := rd_dagg.1 hd
    obtain ⟨h4, h5⟩ := toPV1s_sound h1 h2 h3
    exact rd_agg.2 ⟨vs, rfl, .agg vs ps h4 h5⟩
  | pv q =>
    cases q with
    | agg ps => simp [toPV] at h; subst h; exact rd_pv_rho hd
    | tup ps => simp [toPV, toPV1, toPV0] at h
    | _ => simp only [toPV] at h; exact single _ h hd
  | nils => exact single .nils h hd
  | clo f caps => exact single (.clo f caps) h hd
  | _ => simp [toPV, toPV1, toPV0] at h
end topv

theorem toPVs_sound {ρ : Rho} {I : Nat → Prop} {w : World} : ∀ {vs : List Value} {ds : List D} {ps : List PV}, toPVs ds = some ps → RDs ρ I w vs ds → RVs I w vs ps
  | [], [], ps, h, _ => by simp [toPVs] at h; subst h; trivial
  | v :: vs, d :: ds, ps, h, hr => by
    simp only [toPVs] at h
    split at h <;> simp at h
    rename_i p ps' h1 h2
    subst h
    exact ⟨toPV_sound h1 hr.1, toPVs_sound h2 hr.2⟩
  | [], _ :: _, _, _, h => h.elim
  | _ :: _, [], _, _, h => h.elim

theorem RVs_append {I : Nat → Prop} {w : World} : ∀ {vs us : List Value} {ps qs : List PV}, RVs I w vs ps → RVs I w us qs → RVs I w (vs ++ us) (ps ++ qs)
  | [], _, [], _, _, h => h
  | _ :: _, _, _ :: _, _, h, h' => ⟨h.1, RVs_append h.2 h'⟩
  | [], _, _ :: _, _, h, _ => h.elim
  | _ :: _, _, [], _, h, _ => h.elim

theorem RVs_of {I : Nat → Prop} {w : World} : ∀ {vs : List Value} {ps : List PV}, vs.length = ps.length → (∀ i (h : i < vs.length) (h' : i < ps.length), RD [] I w vs[i] (.pv ps[i])) → RVs I w vs ps
  | [], [], _, _ => trivial
  | v :: vs, p :: ps, hl, h => ⟨h 0 (by simp) (by simp), RVs_of (by simpa using hl) fun i hi hi' => by have := h (i + 1) (by simpa using hi) (by simpa using hi'); simpa using this⟩

section ops
variable {P : Program} {S : Store} {o : Oper} {E : Env} {c : D → Prop}

theorem dOpds_sound {ρ : Rho} {I : Nat → Prop} {w : World} {a : Act} : ∀ {xs : List Operand} {ys : List Opd}, dOpds xs = some ys →
    (∀ t, Operand.tmp t ∈ xs → RD ρ I w (a.tmps.getD t Go.undef) (E t)) → RDs ρ I w (xs.map a.eval) (ys.map (ev E))
  | [], ys, h, _ => by simp [dOpds] at h; subst h; trivial
  | x :: xs, ys, h, he => by
    simp only [dOpds] at h
    split at h <;> simp at h
    rename_i y ys' h1 h2
    subst h
    exact ⟨dOpd_sound h1 fun t ht => he t (by simp [ht]), dOpds_sound h2 fun t ht => he t (by simp [ht])⟩

theorem run_callFunc {f : FuncId} (h : callable P f = true) (args : Array Value) (w : World) : (callFunc f args).run P w = .ok (.enter f args) w := by
  unfold callable at h
  split at h
  · rename_i fn hfn
    simp only [Bool.and_eq_true, Bool.not_eq_true'] at h
    obtain ⟨h1, h2⟩ := h
    have h3 : fn.body.isNone = false := by cases hb : fn.body <;> simp_all
    simp only [callFunc, Sem.run_bind, run_program, Result.andThen_ok, hfn, h2, h3, Bool.false_eq_true, if_false, Sem.run_pure]
  · simp at h

theorem wp_enter {a : Act} {w : World} {next : Act → World → Prop} {Q : Exit → Act → World → Prop} {f : FuncId} {args : Array Value}
    (h : (execOp a.eval o).run P w = .ok (.enter f args) w) (hn : Calls P f args w fun e w' => ∃ u, e = .returned u ∧ next (a.put o.dst u) w') : o.wp P a w next Q := by
  unfold Oper.wp; rw [h]
  exact hn.mono fun e w' ⟨u, hu, hx⟩ => by subst hu; exact hx

theorem ok_call {f : FuncId} {args : Array Operand} {args' : List Opd} {ats : Array TypeId} (hop : o.op = .call { callee := .value (.func f), args := args, argTypes := ats })
    (hx : dOpds args.toList = some args') (hf : callable P f = true) (h : stepF P S (.call f args') E c) : ∃ d, OpOK P S o E d ∧ c d := by
  simp only [stepF] at h
  split at h
  · rename_i ps hps
    obtain ⟨r, hcon, hc⟩ := h
    refine ⟨_, fun ρ I w ac next Q hst he hn => ?_, hc⟩
    have g := dOpds_sound (E := E) (ρ := ρ) (I := I) (w := w) (a := ac) hx (fun t ht => he t (slots_mem (by simp [hop, Op.operands, Call.operands]; simpa using ht)))
    have g' := toPVs_sound hps g
    refine wp_enter (f := f) (args := (args.toList.map ac.eval).toArray) ?_ ?_
    · have : args.map ac.eval = (args.toList.map ac.eval).toArray := by rw [← Array.toList_map]
      rw [← this]
      have hev : ac.eval (.func f) = .func (.func f) #[] #[] := rfl
      simp [execOp, hop, resolve, hev, Deferred.ofValue, invoke, run_callFunc hf]
    · refine (hcon I w _ hst.old g').mono fun e w' ⟨u, p, I', h1, h2, h3, h4⟩ => ⟨u, h1, hn u I' w' h3 ?_⟩
      subst h2
      exact rd_rho h4
  · exact h.elim

theorem ok_callv {x : Operand} {x' : Opd} {args : Array Operand} {args' : List Opd} {ats : Array TypeId} (hop : o.op = .call { callee := .value x, args := args, argTypes := ats })
    (hx' : dOpd x = some x') (hx : dOpds args.toList = some args') (h : stepF P S (.callv x' args') E c) : ∃ d, OpOK P S o E d ∧ c d := by
  simp only [stepF] at h
  split at h
  · rename_i f caps ps hcl hps
    obtain ⟨hf, r, hcon, hc⟩ := h
    refine ⟨_, fun ρ I w ac next Q hst he hn => ?_, hc⟩
    have g0 := dOpd_sound hx' fun t ht => he t (slots_mem (by simp [hop, Op.operands, Call.operands, ht]))
    have g1 := toPV_sound hcl g0
    rw [rd_pv rfl] at g1
    have g := dOpds_sound (E := E) (ρ := ρ) (I := I) (w := w) (a := ac) hx (fun t ht => he t (slots_mem (by simp [hop, Op.operands, Call.operands]; exact Or.inr (by simpa using ht))))
    have g' := toPVs_sound hps g
    generalize hv : ac.eval x = v at *
    cases g1 with
    | clo _ vs _ h1 h2 h3 =>
      have hcaps : RVs I w vs caps := RVs_of h1 fun i hi hi' => (rd_pv (h3 _ (List.getElem_mem hi'))).2 (h2 i hi hi')
      refine wp_enter (f := f) (args := (args.toList.map ac.eval ++ vs).toArray) ?_ ?_
      · simp [execOp, hop, resolve, hv, Deferred.ofValue, invoke, run_callFunc hf]
      · refine (hcon I w _ hst.old (RVs_append g' hcaps)).mono fun e w' ⟨u, p, I', h1, h2, h3, h4⟩ => ⟨u, h1, hn u I' w' h3 ?_⟩
        subst h2
        exact rd_rho h4
  · exact h.elim

theorem ok_mkf {f : FuncId} {caps : Array Operand} {caps' : List Opd} (hop : o.op = .makeFunc (.func f) #[] caps) (hx : dOpds caps.toList = some caps')
    (h : stepF P S (.mkf f caps') E c) : ∃ d, OpOK P S o E d ∧ c d := by
  simp only [stepF] at h
  obtain ⟨hall, h⟩ := h
  refine ⟨_, opOK_pure fun ρ I w ac hst he => ⟨.func (.func f) #[] (caps.map ac.eval), by simp [execOp, hop, Instr.makeFunc], ?_⟩, h⟩
  have g := dOpds_sound (E := E) (ρ := ρ) (I := I) (w := w) (a := ac) hx (fun t ht => he t (slots_mem (by simp [hop, Op.operands]; simpa using ht)))
  have hcs : ∀ (xs : List Operand) (ys : List Opd), RDs ρ I w (xs.map ac.eval) (ys.map (ev E)) → (∀ y ∈ ys, isR0 (ev E y) = true) →
      (xs.map ac.eval).length = (ys.map (ev E)).length ∧ ∀ i (h : i < (xs.map ac.eval).length) (h' : i < (ys.map (ev E)).length), R0 ρ I w (xs.map ac.eval)[i] (ys.map (ev E))[i] := by
    intro xs
    induction xs with
    | nil => intro ys h _; cases ys with
      | nil => simp
      | cons y ys => exact h.elim
    | cons x xs ih => intro ys h hr; cases ys with
      | nil => exact h.elim
      | cons y ys =>
        obtain ⟨h1, h2⟩ := ih ys h.2 (fun z hz => hr z (by simp [hz]))
        refine ⟨by simpa using h1, fun i hi hi' => ?_⟩
        cases i with
        | zero =>
          have h3 := h.1
          have h4 := hr y (by simp)
          simp only [List.map_cons, List.getElem_cons_zero]
          generalize ev E y = d at *
          cases d with
          | pv p => cases p <;> first | exact h3 | (simp [isR0] at h4)
          | _ => first | exact h3 | (simp [isR0] at h4)
        | succ i => exact h2 i (by simpa using hi) (by simpa using hi')
  obtain ⟨h1, h2⟩ := hcs _ _ g hall
  show R1 ρ I w _ (.clo f _)
  refine ⟨caps.toList.map ac.eval, ?_, h1, h2⟩
  rw [← Array.toList_map]

theorem optI_sound {ρ : Rho} {I : Nat → Prop} {w : World} {ac : Act} {lo : Option Operand} {lo' : Option Opd} {dflt n : Int} (hl : lo.map dOpd = lo'.map some) (h : optI E lo' dflt = some n)
    (he : ∀ t, lo = some (.tmp t) → RD ρ I w (ac.tmps.getD t Go.undef) (E t)) : (lo = none ∧ n = dflt) ∨ ∃ x k, lo = some x ∧ ac.eval x = .int k n := by
  cases lo with
  | none =>
    cases lo' with
    | none => simp [optI] at h; exact .inl ⟨rfl, h.symm⟩
    | some y => simp at hl
  | some x =>
    cases lo' with
    | none => simp at hl
    | some y =>
      simp at hl
      have g := dOpd_sound (ρ := ρ) (I := I) (w := w) (a := ac) (E := E) hl fun t ht => he t (by rw [ht])
      simp only [optI] at h
      split at h <;> simp at h
      rename_i k m e
      rw [e, rd_int] at g
      subst h
      exact .inr ⟨x, k, rfl, g⟩

theorem rc_sub {I : Nat → Prop} {w : World} {v : Value} {ρ : Rho} {xs : List PV} {sz : Nat} (h : RD ρ I w v (.pv (.sl xs))) (l hh : Nat) (h1 : l ≤ hh) (h2 : hh ≤ xs.length) (hsz : ∀ x ∈ xs, x.nc = sz) :
    ∃ a cap, v = .slice a xs.length cap ∧ xs.length ≤ cap ∧ RD ρ I w (.slice (if cap = l then a else a.map (·.add (l * sz))) (hh - l) (cap - l)) (.pv (.sl ((xs.take hh).drop l))) := by
  have hlen : ((xs.take hh).drop l).length = hh - l := by simp; omega
  rcases rd_sl h with ⟨rfl, a, cap, rfl, hc⟩ | ⟨b, off, cap, sz', vs, rfl, h3, h4, h5, h6, h7, h8⟩
  · simp at h2
    subst h2
    have : l = 0 := by omega
    subst this
    refine ⟨a, cap, rfl, Nat.zero_le _, (rd_pv rfl).2 ?_⟩
    simp only [List.take_nil, List.drop_nil]
    exact .sl0 _ _ (by omega)
  · refine ⟨_, cap, rfl, h3, (rd_pv rfl).2 ?_⟩
    by_cases hlt : l < hh
    · have hne : cap ≠ l := by omega
      have hs : sz' = sz := by
        have e1 := h6 l (by omega)
        have e2 := (h8 l (by omega)).len
        rw [e1] at e2
        rw [e2]
        exact hsz _ (List.getElem_mem _)
      subst hs
      simp only [hne, if_false, Option.map_some, Addr.add_none]
      refine .sl _ b (off + l * sz') (cap - l) sz' (hh - l) (fun i => vs (l + i)) hlen.symm (by omega) (by omega) h5 (fun i hi => h6 _ (by omega)) (fun i hi => ?_) (fun i hi => ?_)
      · have := h7 (l + i) (by omega)
        rw [Nat.add_mul, ← Nat.add_assoc] at this
        exact this
      · have := h8 (l + i) (by omega)
        simpa using this
    · have : hh - l = 0 := by omega
      have hnil : (xs.take hh).drop l = [] := List.eq_nil_of_length_eq_zero (by omega)
      rw [this, hnil]
      exact .sl0 _ _ (by omega)

theorem slR_rd {ρ : Rho} {I : Nat → Prop} {w : World} {v : Value} {d : D} {a A : Option Addr} {n cap k l : Nat} {ys : List PV} (g : RD ρ I w v d) (hv : v = .slice a n cap) (hr : RD ρ I w (.slice A k (cap - l)) (.pv (.sl ys))) (hk : k ≤ n) : RD ρ I w (.slice A k (cap - l)) (slR d ys) := by
  unfold slR
  split
  · rw [rd_nils] at g
    obtain ⟨a', g⟩ := g
    rw [g] at hv
    injection hv with h1 h2 h3
    subst h2 h3
    rw [rd_nils]
    exact ⟨A, by rw [Nat.le_zero.1 hk, Nat.zero_sub]⟩
  · exact hr
theorem ok_slc {T e : TypeId} {x : Operand} {x' : Opd} {lo hi : Option Operand} {lo' hi' : Option Opd} {sz : Nat} (hop : o.op = .slice T x lo hi none) (hT : P.underlying T = some (.slice e)) (hs : szT P e = some sz)
    (hx : dOpd x = some x') (hl : lo.map dOpd = lo'.map some) (hh : hi.map dOpd = hi'.map some) (h : stepF P S (.slc sz x' lo' hi') E c) : ∃ d, OpOK P S o E d ∧ c d := by
  simp only [stepF] at h
  split at h
  · rename_i xs hxs
    split at h
    · rename_i l m hl' hm'
      obtain ⟨⟨h0, h1, h2, h3⟩, hc⟩ := h
      refine ⟨_, opOK_pure fun ρ I w ac hst he => ?_, hc⟩
      have g := dOpd_sound (ρ := ρ) (I := I) (w := w) hx fun t ht => he t (slots_mem (by simp [hop, Op.operands, ht]))
      have g' : RD ρ I w (ac.eval x) (.pv (.sl xs)) := by
        unfold asSl at hxs
        split at hxs <;> simp at hxs
        · rename_i e1; subst hxs; rw [e1] at g; exact g
        · rename_i e1; subst hxs; rw [e1, rd_nils] at g; obtain ⟨a, g⟩ := g; rw [g]; exact (rd_pv rfl).2 (.sl0 a 0 (Nat.zero_le _))
      have gl := optI_sound (ρ := ρ) (I := I) (w := w) (ac := ac) hl hl' fun t ht => he t (slots_mem (by simp [hop, Op.operands, ht]))
      have gm := optI_sound (ρ := ρ) (I := I) (w := w) (ac := ac) hh hm' fun t ht => he t (slots_mem (by simp [hop, Op.operands, ht]))
      obtain ⟨a, cap, hv, hcap, hr⟩ := rc_sub g' l.toNat m.toNat (by omega) (by omega) h3
      have hr2 := slR_rd (d := ev E x') g hv hr (by omega)
      refine ⟨_, ?_, hr2⟩
      have hm1 : m ≤ (cap : Int) := by omega
      have hm0 : 0 ≤ m := by omega
      have hlm : l ≤ (m.toNat : Int) := by omega
      have A1 : (Instr.sliceBounds true xs.length cap (lo.map ac.eval) (hi.map ac.eval) none).run P w = .ok (l.toNat, m.toNat, cap) w := by
        rcases gm with ⟨rfl, rfl⟩ | ⟨xm, km, rfl, em⟩ <;> rcases gl with ⟨rfl, rfl⟩ | ⟨xl, kl, rfl, el⟩ <;>
          simp_all [Instr.sliceBounds, Instr.sliceBound, asIntOf]
      simp [execOp, hop, Instr.sliceAt, Instr.slice, run_underlying hT, hv, A1, run_sizeOf' hs]
    · exact h.elim
  · split at h
    · rename_i oo n hxs
      split at h
      · rename_i l m hl' hm'
        obtain ⟨⟨h0, h1, h2⟩, hc⟩ := h
        subst h0
        refine ⟨_, opOK_pure fun ρ I w ac hst he => ?_, hc⟩
        have g := dOpd_sound (ρ := ρ) (I := I) (w := w) hx fun t ht => he t (slots_mem (by simp [hop, Op.operands, ht]))
        rw [hxs, rd_own] at g
        obtain ⟨b, sz', cap, cs, E', k1, hv, k3, k4, k5, k6⟩ := g
        have gl := optI_sound (ρ := ρ) (I := I) (w := w) (ac := ac) hl hl' fun t ht => he t (slots_mem (by simp [hop, Op.operands, ht]))
        have gm := optI_sound (ρ := ρ) (I := I) (w := w) (ac := ac) hh hm' fun t ht => he t (slots_mem (by simp [hop, Op.operands, ht]))
        have hm1 : m ≤ (cap : Int) := by omega
        have A1 : (Instr.sliceBounds true n cap (lo.map ac.eval) (hi.map ac.eval) none).run P w = .ok (0, m.toNat, cap) w := by
          rcases gm with ⟨rfl, rfl⟩ | ⟨xm, km, rfl, em⟩ <;> rcases gl with ⟨rfl, _⟩ | ⟨xl, kl, rfl, el⟩ <;>
            simp_all [Instr.sliceBounds, Instr.sliceBound, asIntOf]
        refine ⟨.slice (some ⟨b, 0, none⟩) m.toNat cap, ?_, rd_own.2 ⟨b, sz', cap, cs, E', k1, rfl, by omega, k4, k5, k6⟩⟩
        simp [execOp, hop, Instr.sliceAt, Instr.slice, run_underlying hT, hv, A1, run_sizeOf' hs, Addr.add_none]
      · exact h.elim
    · rename_i oo off n cap hxs
      split at h
      · rename_i l m hl' hm'
        obtain ⟨⟨h0, h1, h2, ob, hob, hosz⟩, hc⟩ := h
        refine ⟨_, opOK_pure fun ρ I w ac hst he => ?_, hc⟩
        have g := dOpd_sound (ρ := ρ) (I := I) (w := w) hx fun t ht => he t (slots_mem (by simp [hop, Op.operands, ht]))
        rw [hxs, rd_sub] at g
        obtain ⟨b, sz', cs, E', k1, hv, k3, k4, k5, k6⟩ := g
        obtain ⟨b2, sz2, j1, j2, _⟩ := hst.obs oo ob hob
        rw [k1] at j1
        simp at j1
        obtain ⟨rfl, rfl⟩ := j1
        have hz : sz' = sz := by rw [j2, hosz]
        clear j2 hosz
        subst hz
        have gl := optI_sound (ρ := ρ) (I := I) (w := w) (ac := ac) hl hl' fun t ht => he t (slots_mem (by simp [hop, Op.operands, ht]))
        have gm := optI_sound (ρ := ρ) (I := I) (w := w) (ac := ac) hh hm' fun t ht => he t (slots_mem (by simp [hop, Op.operands, ht]))
        have hm0 : 0 ≤ m := by omega
        have hlm : l ≤ (m.toNat : Int) := by omega
        have A1 : (Instr.sliceBounds true n cap (lo.map ac.eval) (hi.map ac.eval) none).run P w = .ok (l.toNat, m.toNat, cap) w := by
          rcases gm with ⟨rfl, rfl⟩ | ⟨xm, km, rfl, em⟩ <;> rcases gl with ⟨rfl, rfl⟩ | ⟨xl, kl, rfl, el⟩ <;>
            simp_all [Instr.sliceBounds, Instr.sliceBound, asIntOf]
        have hsub : m.toNat - l.toNat = (m - l).toNat := by omega
        refine ⟨.slice (some (if cap = l.toNat then ⟨b, off * sz', none⟩ else ⟨b, off * sz' + l.toNat * sz', none⟩)) (m - l).toNat (cap - l.toNat), ?_, ?_⟩
        · simp [execOp, hop, Instr.sliceAt, Instr.slice, run_underlying hT, hv, A1, run_sizeOf' hs, Addr.add_none, hsub]
          split <;> rfl
        · by_cases hc0 : cap = l.toNat
          · rw [if_pos hc0, if_pos hc0]
            refine rd_nils.2 ⟨some ⟨b, off * sz', none⟩, ?_⟩
            rw [show (m - l).toNat = 0 by omega, show cap - l.toNat = 0 by omega]
          · rw [if_neg hc0, if_neg hc0]
            refine rd_sub.2 ⟨b, sz', cs, E', k1, by rw [Nat.add_mul], by omega, by omega, k5, ?_⟩
            rw [show off + l.toNat + (cap - l.toNat) = off + cap by omega]
            exact k6
      · exact h.elim
    · exact h.elim

theorem ok_slc3 {T e : TypeId} {x : Operand} {x' : Opd} {lo : Option Operand} {hi mx : Operand} {lo' : Option Opd} {hi' mx' : Opd} {sz : Nat} (hop : o.op = .slice T x lo (some hi) (some mx)) (hT : P.underlying T = some (.slice e)) (hs : szT P e = some sz)
    (hx : dOpd x = some x') (hl : lo.map dOpd = lo'.map some) (hh : dOpd hi = some hi') (hmx : dOpd mx = some mx') (h : stepF P S (.slc3 sz x' lo' hi' mx') E c) : ∃ d, OpOK P S o E d ∧ c d := by
  simp only [stepF] at h
  split at h
  · rename_i oo off n cap hxs
    split at h
    · rename_i l m k hl' hm' hk'
      obtain ⟨⟨h0, h1, h2, h3⟩, hc⟩ := h
      refine ⟨_, opOK_pure fun ρ I w ac hst he => ?_, hc⟩
      have g := dOpd_sound (ρ := ρ) (I := I) (w := w) hx fun t ht => he t (slots_mem (by simp [hop, Op.operands, ht]))
      rw [hxs, rd_sub] at g
      obtain ⟨b, sz', cs, E', k1, hv, k3, k4, k5, k6⟩ := g
      have gl := optI_sound (ρ := ρ) (I := I) (w := w) (ac := ac) hl hl' fun t ht => he t (slots_mem (by simp [hop, Op.operands, ht]))
      have gm := optI_sound (ρ := ρ) (I := I) (w := w) (ac := ac) (lo := some hi) (by simpa using hh) hm' fun t ht => he t (slots_mem (by simp [hop, Op.operands]; simp at ht; simp [ht]))
      have gk := optI_sound (ρ := ρ) (I := I) (w := w) (ac := ac) (lo := some mx) (by simpa using hmx) hk' fun t ht => he t (slots_mem (by simp [hop, Op.operands]; simp at ht; simp [ht]))
      rcases gk with ⟨e0, _⟩ | ⟨xk, kk, ek, vk⟩
      · simp at e0
      simp at ek
      subst ek
      rcases gm with ⟨e0, _⟩ | ⟨xm, km, em, vm⟩
      · simp at e0
      simp at em
      subst em
      have hm0 : 0 ≤ m := by omega
      have hk0 : 0 ≤ k := by omega
      have hlm : l ≤ (m.toNat : Int) := by omega
      have hmk : m ≤ (k.toNat : Int) := by omega
      have A1 : (Instr.sliceBounds true n cap (lo.map ac.eval) (some (ac.eval hi)) (some (ac.eval mx))).run P w = .ok (l.toNat, m.toNat, k.toNat) w := by
        rcases gl with ⟨rfl, rfl⟩ | ⟨xl, kl, rfl, el⟩ <;>
          simp_all [Instr.sliceBounds, Instr.sliceBound, asIntOf]
      refine ⟨.slice (if k.toNat = l.toNat then some ⟨b, off * sz', none⟩ else (some ⟨b, off * sz', none⟩ : Option Addr).map (·.add (l.toNat * sz))) (m.toNat - l.toNat) (k.toNat - l.toNat), ?_, rd_any⟩
      simp [execOp, hop, Instr.sliceAt, Instr.slice, run_underlying hT, hv, A1, run_sizeOf' hs]
    · exact h.elim
  · exact h.elim

end ops
end Go.V

namespace Go.V

/-! filling cells -/
theorem foldl_set (vs : List Value) : ∀ (k off : Nat) (cs : Array Value), off + k + vs.length ≤ cs.size →
    ((vs.zipIdx k).foldl (fun (cs : Array Value) (p : Value × Nat) => cs.setIfInBounds (off + p.2) p.1) cs).toList = cs.toList.take (off + k) ++ vs ++ cs.toList.drop (off + k + vs.length) := by
  induction vs with
  | nil => intro k off cs h; simp
  | cons v vs ih =>
    intro k off cs h
    simp only [List.length_cons] at h
    simp only [List.zipIdx_cons, List.foldl_cons]
    rw [ih (k + 1) off _ (by simp; omega)]
    have hk : off + k < cs.toList.length := by simp; omega
    have e1 : (cs.setIfInBounds (off + k) v).toList = cs.toList.set (off + k) v := by simp
    rw [e1]
    have e2 : (cs.toList.set (off + k) v).take (off + (k + 1)) = cs.toList.take (off + k) ++ [v] := by
      rw [show off + (k + 1) = (off + k) + 1 from by omega, List.take_succ_eq_append_getElem (by simpa using hk)]
      simp [List.take_set_of_le]
    have e3 : (cs.toList.set (off + k) v).drop (off + (k + 1) + vs.length) = cs.toList.drop (off + k + (v :: vs).length) := by
      rw [List.drop_set_of_lt (by omega)]
      congr 1
      simp; omega
    rw [e2, e3]
    simp

theorem fill_step {place : Nat → Option (Nat × Nat)} {cells : Array Value} {i : Nat} {v : Value} {rest : List (Nat × Value)} {off sz : Nat} (hp : place i = some (off, sz)) (h1 : v.cells.size = sz) (h2 : off + sz ≤ cells.size) :
    Instr.fill place cells ((i, v) :: rest) = Instr.fill place (cells.toList.take off ++ v.cells.toList ++ cells.toList.drop (off + sz)).toArray rest := by
  rw [Instr.fill]
  simp only [hp, h1, ne_eq, not_true_eq_false, decide_false, Bool.false_or, decide_eq_true_eq]
  rw [if_neg (by omega)]
  congr 1
  have := foldl_set v.cells.toList 0 off cells (by simp; omega)
  apply Array.ext'
  rw [← Array.foldl_toList]
  have e : v.cells.zipIdx.toList = v.cells.toList.zipIdx 0 := by simp
  rw [e]
  have hh : (v.cells.toList.length) = sz := by simpa using h1
  rw [hh] at this
  simpa using this

section build
variable {ρ : Rho} {I : Nat → Prop} {w : World}
def R1s (ρ : Rho) (I : Nat → Prop) (w : World) (vs : List Value) (ds : List D) : Prop := vs.length = ds.length ∧ ∀ i (h : i < vs.length) (h' : i < ds.length), R1 ρ I w vs[i] ds[i]

theorem rd_cells {v : Value} {d : D} {cs : List D} (h : RD ρ I w v d) (hcs : cellsD d = some cs) : R1s ρ I w v.cells.toList cs := by
  cases d with
  | agg ds =>
    simp [cellsD] at hcs; subst hcs
    obtain ⟨vs, rfl, h1, h2⟩ := rd_dagg.1 h
    exact ⟨by simpa [Value.cells] using h1, by simpa [Value.cells] using h2⟩
  | pv p =>
    cases p with
    | agg ps =>
      obtain ⟨vs, rfl, h1⟩ := rd_agg.1 h
      have := rdc_cells (ρ := ρ) (d := .pv (.agg ps)) h1 hcs
      simpa [Value.cells, R1s] using this
    | tup ps => simp [cellsD] at hcs
    | _ =>
      have h' := (rd_pv rfl).1 h
      have := rdc_cells (ρ := ρ) (d := .pv _) h' hcs
      rw [single_of_rc h' rfl]
      exact this
  | tup ds => simp [cellsD] at hcs
  | undef => simp [cellsD] at hcs
  | any => simp [cellsD] at hcs
  | nils =>
    obtain ⟨a, rfl⟩ := rd_nils.1 h
    exact rdc_cells (ρ := ρ) (d := .nils) ⟨_, rfl, h⟩ hcs
  | ptr o i j =>
    obtain ⟨b, sz, h1, rfl⟩ := rd_ptr.1 h
    exact rdc_cells (ρ := ρ) (d := .ptr o i j) ⟨_, rfl, h⟩ hcs
  | own o n =>
    obtain ⟨b, sz, cap, cs', E', h1, rfl, h2⟩ := rd_own.1 h
    exact rdc_cells (ρ := ρ) (d := .own o n) ⟨_, rfl, h⟩ hcs
  | sub o off n cap =>
    obtain ⟨b, sz, cs', E', h1, rfl, h2⟩ := rd_sub.1 h
    exact rdc_cells (ρ := ρ) (d := .sub o off n cap) ⟨_, rfl, h⟩ hcs
  | clo f caps =>
    have h' : R1 ρ I w v (.clo f caps) := h
    obtain ⟨vs, rfl, h1⟩ := id h'
    exact rdc_cells (ρ := ρ) (d := .clo f caps) ⟨_, rfl, h'⟩ hcs

theorem R1s.app {a b : List Value} {c d : List D} (h : R1s ρ I w a c) (k : R1s ρ I w b d) : R1s ρ I w (a ++ b) (c ++ d) := by
  refine ⟨by simp [h.1, k.1], fun i hi hi' => ?_⟩
  simp only [List.getElem_append]
  have := h.1
  by_cases hlt : i < a.length
  · simp only [hlt, dif_pos, show i < c.length from by omega]
    exact h.2 i hlt (by omega)
  · simp only [hlt, show ¬ i < c.length from by omega, dif_neg, not_false_eq_true]
    have e : i - c.length = i - a.length := by omega
    simp only [e]
    exact k.2 _ (by simp at hi; omega) (by simp at hi'; omega)
theorem R1s.take {a : List Value} {c : List D} (h : R1s ρ I w a c) (n : Nat) : R1s ρ I w (a.take n) (c.take n) :=
  ⟨by simp [h.1], fun i hi hi' => by simp only [List.getElem_take]; exact h.2 i (by simp at hi; omega) (by simp at hi'; omega)⟩
theorem R1s.drop {a : List Value} {c : List D} (h : R1s ρ I w a c) (n : Nat) : R1s ρ I w (a.drop n) (c.drop n) :=
  ⟨by simp [h.1], fun i hi hi' => by simp only [List.getElem_drop]; exact h.2 _ (by simp at hi; omega) (by simp at hi'; omega)⟩
theorem R1s.mono {I' : Nat → Prop} {w' : World} (hI : ∀ b, I b → I' b) (hk : Keeps ρ I w w') {a : List Value} {c : List D} (h : R1s ρ I w a c) : R1s ρ I' w' a c :=
  ⟨h.1, fun i hi hi' => R1.mono hI hk (h.2 i hi hi')⟩

def partsOf (fs : List (Nat × Nat)) : List (Nat × Operand) → Option (List (Nat × Nat × Opd))
  | [] => some []
  | (i, x) :: rest => match fs[i]?, dOpd x, partsOf fs rest with
    | some (off, sz), some y, some r => some ((off, sz, y) :: r)
    | _, _, _ => none

theorem fill_sound {E : Env} {ac : Act} {fs : List (Nat × Nat)} : ∀ {parts : List (Nat × Operand)} {parts' : List (Nat × Nat × Opd)} {cells : Array Value} {ds ds' : List D},
    partsOf fs parts = some parts' → R1s ρ I w cells.toList ds → fillD E ds parts' = some ds' →
    (∀ i x t, (i, x) ∈ parts → x = .tmp t → RD ρ I w (ac.tmps.getD t Go.undef) (E t)) →
    ∃ cells', Instr.fill (fun i => fs[i]?) cells (parts.map fun p => (p.1, ac.eval p.2)) = some cells' ∧ R1s ρ I w cells'.toList ds'
  | [], parts', cells, ds, ds', h, hr, hf, _ => by
    simp [partsOf] at h; subst h
    simp [fillD] at hf; subst hf
    exact ⟨cells, by simp [Instr.fill], hr⟩
  | (i, x) :: parts, parts', cells, ds, ds', h, hr, hf, he => by
    simp only [partsOf] at h
    split at h <;> simp at h
    rename_i off sz y r h1 h2 h3
    subst h
    simp only [fillD] at hf
    split at hf
    · rename_i cs hcs
      split at hf
      · rename_i hc
        obtain ⟨hc1, hc2⟩ := hc
        have g := dOpd_sound (ρ := ρ) (I := I) (w := w) (a := ac) (E := E) h2 fun t ht => he i x t (by simp) ht
        have g2 := rd_cells g hcs
        have hsz : (ac.eval x).cells.size = sz := by have := g2.1; simp at this; omega
        have hlen := hr.1
        have hds : ds.length = cells.size := by simpa using hlen.symm
        have R := ((hr.take off).app g2).app (hr.drop (off + sz))
        obtain ⟨cells', e1, e2⟩ := fill_sound (ac := ac) (cells := (cells.toList.take off ++ (ac.eval x).cells.toList ++ cells.toList.drop (off + sz)).toArray)
          (ds := setAt ds off cs) h3 (by simp only [setAt, hc1]; exact R) hf (fun i' x' t hm => he i' x' t (by simp [hm]))
        refine ⟨cells', ?_, e2⟩
        rw [List.map_cons, fill_step h1 hsz (by omega)]
        exact e1
      · simp at hf
    · simp at hf
end build

def fieldPls (P : Program) : List Field → Option (List (Nat × Nat))
  | [] => some []
  | f :: fs => match szT P f.type, fieldPls P fs with
    | some n, some r => some ((f.offset, n) :: r)
    | _, _ => none
theorem run_fieldPls {P : Program} {w : World} : ∀ {fs : List Field} {r : List (Nat × Nat)}, fieldPls P fs = some r →
    (fs.mapM (m := Sem) fun (f : Field) => do pure (f.offset, ← sizeOf f.type)).run P w = .ok r w
  | [], r, h => by simp [fieldPls] at h; subst h; rfl
  | f :: fs, r, h => by
    simp only [fieldPls] at h
    split at h <;> simp at h
    rename_i n r' h1 h2
    subst h
    have := run_fieldPls (w := w) h2
    simp only [List.mapM_cons, Sem.run_bind, run_sizeOf' h1, Result.andThen_ok, Sem.run_pure, this]

def zeroT (P : Program) (t : TypeId) : Option (List D) :=
  match (P.info? t).bind (·.zero) with
  | some v => dOfs v.cells.toList
  | none => none
theorem run_zero {P : Program} {t : TypeId} {ds : List D} (h : zeroT P t = some ds) : ∃ v, dOfs v.cells.toList = some ds ∧ ∀ w, (zeroValue t).run P w = .ok v w := by
  unfold zeroT at h
  split at h
  · rename_i v hv
    obtain ⟨i, h1, h2⟩ := Option.bind_eq_some_iff.1 hv
    exact ⟨v, h, fun w => by simp [zeroValue, typeInfo, h1, h2]⟩
  · simp at h

section ops
variable {P : Program} {S : Store} {o : Oper} {E : Env} {c : D → Prop}

theorem ok_build {T : TypeId} {parts : Array (Nat × Operand)} {fs : Array Field} {pls : List (Nat × Nat)} {parts' : List (Nat × Nat × Opd)} {zero : List D} (hop : o.op = .build T parts)
    (hT : P.underlying T = some (.struct fs)) (hz : zeroT P T = some zero) (hf : fieldPls P fs.toList = some pls) (hp : partsOf pls parts.toList = some parts')
    (h : stepF P S (.build zero parts') E c) : ∃ d, OpOK P S o E d ∧ c d := by
  simp only [stepF] at h
  split at h
  · rename_i cs hcs
    obtain ⟨zv, hz1, hz2⟩ := run_zero hz
    refine ⟨_, opOK_pure fun ρ I w ac hst he => ?_, h⟩
    have hzr : R1s ρ I w zv.cells.toList zero := dOfs_sound hz1
    obtain ⟨cells', e1, e2⟩ := fill_sound (ac := ac) hp hzr hcs (fun i x t hm hx => he t (slots_mem (by
      subst hx
      simp only [hop, Op.operands]
      exact (by simpa using ⟨i, by simpa using hm⟩))))
    refine ⟨.agg cells', ?_, rd_dagg.2 ⟨cells'.toList, by simp, e2.1, e2.2⟩⟩
    have hm := run_fieldPls (w := w) hf
    have hm' : (fs.mapM (m := Sem) fun (f : Field) => do pure (f.offset, ← sizeOf f.type)).run P w = .ok pls.toArray w := by
      rw [Array.mapM_eq_mapM_toList, Sem.run_map, hm]; rfl
    have e3 : (fun (x : Nat) => pls.toArray[x]?) = fun (i : Nat) => pls[i]? := by funext i; simp
    simp only [execOp, hop, Instr.build, Sem.run_bind, hz2, Result.andThen_ok, run_underlying hT, hm', Sem.run_pure]
    have e4 : (parts.map fun x => (x.1, ac.eval x.2)).toList = parts.toList.map fun p => (p.1, ac.eval p.2) := by simp
    rw [e3, e4, e1]
    rfl
  · exact h.elim

def litParts (k : Nat) : List (Nat × Operand) → Option (List (Nat × Opd))
  | [] => some []
  | (i, x) :: rest => match dOpd x, litParts (k + 1) rest with
    | some y, some r => if i = k then some ((i, y) :: r) else none
    | _, _ => none

theorem rd_pv_cells {ρ : Rho} {I : Nat → Prop} {w : World} {v : Value} {p : PV} (h : RD ρ I w v (.pv p)) (hp : ∀ ps, p ≠ .tup ps) : RC I w v.cells.toList p := by
  cases p with
  | agg ps => obtain ⟨vs, rfl, h1⟩ := rd_agg.1 h; simpa [Value.cells] using h1
  | tup ps => exact absurd rfl (hp ps)
  | _ =>
    have h' := (rd_pv rfl).1 h
    rw [single_of_rc h' rfl]; exact h'

theorem toPV_tup {d : D} {ps : List PV} (h : toPV d = some (.tup ps)) : False := by
  cases d with
  | pv q => cases q <;> simp [toPV, toPV1, toPV0] at h
  | agg cs => simp [toPV] at h
  | clo f caps => simp [toPV, toPV1] at h
  | _ => simp [toPV, toPV1, toPV0] at h

theorem lit_fill {ρ : Rho} {I : Nat → Prop} {w : World} {ac : Act} {sz n : Nat} : ∀ {parts : List (Nat × Operand)} {parts' : List (Nat × Opd)} {k : Nat} {cells : Array Value} {xs : List PV},
    litParts k parts = some parts' → litD E sz n parts' = some xs → (∀ x ∈ xs, x.nc = sz) → cells.size = (k + parts.length) * sz →
    (∀ i x t, (i, x) ∈ parts → x = .tmp t → RD ρ I w (ac.tmps.getD t Go.undef) (E t)) →
    ∃ vs : List (List Value), Instr.fill (fun i => some (i * sz, sz)) cells (parts.map fun p => (p.1, ac.eval p.2)) = some (cells.toList.take (k * sz) ++ vs.flatten).toArray ∧
      vs.length = xs.length ∧ (∀ i (h : i < vs.length), vs[i].length = sz) ∧ ∀ i (h : i < vs.length) (h' : i < xs.length), RC I w vs[i] xs[i]
  | [], parts', k, cells, xs, h, hd, hs, hc, _ => by
    simp [litParts] at h; subst h
    simp [litD] at hd; subst hd
    refine ⟨[], ?_, rfl, by simp, by simp⟩
    simp only [List.map_nil, Instr.fill, List.flatten_nil, List.append_nil]
    rw [List.take_of_length_le (by simp; simp at hc; omega)]
  | (i, x) :: parts, parts', k, cells, xs, h, hd, hs, hc, he => by
    simp only [litParts] at h
    split at h <;> simp at h
    rename_i y r h1 h2
    obtain ⟨rfl, rfl⟩ := h
    simp only [litD] at hd
    split at hd <;> simp at hd
    rename_i p ps h3 h4
    subst hd
    have g := dOpd_sound (ρ := ρ) (I := I) (w := w) (a := ac) (E := E) h1 fun t ht => he i x t (by simp) ht
    have g2 := rd_pv_cells (toPV_sound h3 g) (fun ps hps => by subst hps; exact toPV_tup h3)
    have hsz : (ac.eval x).cells.size = sz := by have := g2.len; rw [hs p (by simp)] at this; simpa using this
    have hmul : (i + (parts.length + 1)) * sz = i * sz + sz + parts.length * sz := by
      rw [Nat.add_mul, Nat.add_mul]; omega
    simp only [List.length_cons] at hc
    rw [hmul] at hc
    have hz : cells.size = i * sz + sz + parts.length * sz := hc
    obtain ⟨vs, e1, e2, e3, e4⟩ := lit_fill (ac := ac) (sz := sz) (n := n) (cells := (cells.toList.take (i * sz) ++ (ac.eval x).cells.toList ++ cells.toList.drop (i * sz + sz)).toArray)
      h2 h4 (fun q hq => hs q (by simp [hq])) (by
        simp only [List.size_toArray, List.length_append, List.length_take, List.length_drop, Array.length_toList, hsz]
        rw [Nat.add_mul, Nat.add_mul]; omega) (fun i' x' t hm => he i' x' t (by simp [hm]))
    refine ⟨(ac.eval x).cells.toList :: vs, ?_, by simp [e2], ?_, ?_⟩
    · rw [List.map_cons, fill_step (off := i * sz) (sz := sz) rfl hsz (by omega), e1]
      congr 2
      simp only [List.flatten_cons, ← List.append_assoc]
      congr 1
      have hl : (cells.toList.take (i * sz)).length = i * sz := by simp; omega
      have hl2 : (cells.toList.take (i * sz) ++ (ac.eval x).cells.toList).length = (i + 1) * sz := by
        rw [List.length_append, hl, Nat.add_mul]; simp; omega
      rw [List.take_append_of_le_length (by omega), List.take_of_length_le (by omega)]
    · intro j hj
      cases j with
      | zero => simpa using hsz
      | succ j => exact e3 j (by simpa using hj)
    · intro j hj hj'
      cases j with
      | zero => exact g2
      | succ j => exact e4 j (by simpa using hj) (by simpa using hj')

theorem flatten_at {sz : Nat} : ∀ (vs : List (List Value)) (i : Nat) (h : i < vs.length), (∀ i (h : i < vs.length), vs[i].length = sz) → ∀ j, j < sz → vs.flatten[i * sz + j]? = vs[i][j]?
  | v :: vs, 0, _, hs, j, hj => by
    have := hs 0 (by simp)
    simp only [List.getElem_cons_zero] at this
    simp [List.getElem?_append_left (show j < v.length by omega)]
  | v :: vs, i + 1, h, hs, j, hj => by
    have h0 := hs 0 (by simp)
    simp only [List.getElem_cons_zero] at h0
    have ih := flatten_at vs i (by simpa using h) (fun i hi => by have := hs (i + 1) (by simpa using hi); simpa using this) j hj
    rw [List.flatten_cons, List.getElem?_append_right (by rw [h0, Nat.add_mul]; omega)]
    rw [show (i + 1) * sz + j - v.length = i * sz + j by rw [h0, Nat.add_mul]; omega]
    rw [ih]
    simp

theorem grow_alloc (I : Nat → Prop) (w : World) (ob : Obj) : Grow I w (fun b => I b ∨ b = w.heap.size) (w.alloc ob) where
  os := rfl
  tape := rfl
  output := rfl
  size := by simp
  block := fun k hk => by simp only [World.alloc]; rw [Array.getElem?_push]; simp [Nat.ne_of_lt hk]
  imono := fun b h => .inl h
  inew := fun b h => by
    rcases h with h | h
    · exact .inl h
    · subst h; exact .inr ⟨Nat.le_refl _, by simp⟩

theorem ok_lit {T e : TypeId} {sz n : Nat} {parts : Array (Nat × Operand)} {parts' : List (Nat × Opd)} {zero : List D} (hop : o.op = .buildSlice T n parts)
    (hT : P.underlying T = some (.slice e)) (hs : szT P e = some sz) (hz : zeroT P e = some zero) (hp : litParts 0 parts.toList = some parts') (hn : parts.size = n) (hsz : sz ≠ 0) (h24 : n * sz ≤ 2 ^ 24)
    (h : stepF P S (.lit e sz n zero parts') E c) : ∃ d, OpOK P S o E d ∧ c d := by
  simp only [stepF] at h
  obtain ⟨zv, hz1, hz2⟩ := run_zero hz
  have h24' : ¬ 2 ^ 24 < n * sz := by omega
  split at h
  · rename_i h0
    subst h0
    have hp0 : parts = #[] := Array.eq_empty_of_size_eq_zero hn
    subst hp0
    refine ⟨_, opOK_run fun ρ I w ac hst he => ⟨.slice (some ⟨w.heap.size, 0, none⟩) 0 0, _, w.alloc (.cells #[] e), ?_, grow_alloc I w _, rd_nils.2 ⟨_, rfl⟩⟩, h⟩
    have er : (Array.range 0).map (fun _ => (default : Value)) = #[] := by simp
    simp [execOp, hop, Instr.buildSlice, run_underlying hT, run_sizeOf' hs, Instr.fill, newRow, er]
  · rename_i h0
    split at h
    · rename_i xs hxs
      obtain ⟨h1, h2, h3⟩ := h
      refine ⟨_, opOK_run fun ρ I w ac hst he => ?_, h3⟩
      have hz0 : n * sz ≠ 0 := Nat.mul_ne_zero h0 hsz
      have hnm : n ≤ n * sz := Nat.le_mul_of_pos_right _ (Nat.pos_of_ne_zero hsz)
      obtain ⟨vs, e1, e2, e3, e4⟩ := lit_fill (ρ := ρ) (I := I) (w := w) (ac := ac) (sz := sz) (n := n) (k := 0) (cells := (Array.range (n * sz)).map (zv.cells[· % zv.cells.size]!)) hp hxs h1
        (by simp [hn]) (fun i x t hm hx => he t (slots_mem (by
          subst hx
          simp only [hop, Op.operands]
          exact (by simpa using ⟨i, by simpa using hm⟩))))
      have hlx : xs.length = n := by
        have : ∀ {ps : List (Nat × Opd)} {xs : List PV}, litD E sz n ps = some xs → xs.length = ps.length := fun {ps} => by
          induction ps with
          | nil => intro xs hh; simp [litD] at hh; subst hh; rfl
          | cons p ps ih => intro xs hh; obtain ⟨i, x⟩ := p; simp only [litD] at hh; split at hh <;> simp at hh; rename_i q qs _ hq; subst hh; simp [ih hq]
        have h5 : ∀ {k : Nat} {ps : List (Nat × Operand)} {qs : List (Nat × Opd)}, litParts k ps = some qs → qs.length = ps.length := fun {k ps} => by
          induction ps generalizing k with
          | nil => intro qs hh; simp [litParts] at hh; subst hh; rfl
          | cons p ps ih => intro qs hh; obtain ⟨i, x⟩ := p; simp only [litParts] at hh; split at hh <;> simp at hh; rename_i q qs' _ hq; obtain ⟨_, rfl⟩ := hh; simp [ih hq]
        rw [this hxs, h5 hp]; simpa using hn
      have hg := grow_alloc I w (.cells (vs.flatten).toArray e)
      refine ⟨.slice (some ⟨w.heap.size, 0, none⟩) n n, _, w.alloc (.cells (vs.flatten).toArray e), ?_, hg, (rd_pv rfl).2 ?_⟩
      · simp only [Nat.zero_mul, List.take_zero, List.nil_append] at e1
        have e5 : (parts.map fun x => (x.1, ac.eval x.2)).toList = parts.toList.map fun p => (p.1, ac.eval p.2) := by simp
        simp only [execOp, hop, Instr.buildSlice, Sem.run_bind, run_underlying hT, run_sizeOf' hs, Result.andThen_ok, h24', if_false, gt_iff_lt, hz0, hz2, Sem.run_pure, e5, e1, newRow, run_newObj]
        rfl
      · refine .sl xs _ 0 n sz n (fun i => vs.getD i []) hlx.symm (Nat.le_refl _) ?_ (.inr rfl) (fun i hi => ?_) (fun i hi => ?_) (fun i hi => ?_)
        · unfold maxLen; omega
        · have hi' : i < vs.length := by omega
          simpa [hi'] using e3 i hi'
        · have hi' : i < vs.length := by omega
          intro j hj
          have hj' : j < sz := by have := e3 i hi'; simp [hi'] at hj; omega
          have := flatten_at vs i hi' e3 j hj'
          simp only [World.cell?_alloc_new, Nat.zero_add]
          simp [hi', this]
        · have hi' : i < vs.length := by omega
          have := (e4 i hi' hi).mono hg.imono (fun b hb => hg.block b (hst.old b hb))
          simpa [hi'] using this
    · exact h.elim

end ops
end Go.V

namespace Go.V

def optOpd (x : Option Operand) : Option (Option Opd) :=
  match x with
  | none => some none
  | some x => (dOpd x).map some
theorem optOpd_eq {x : Option Operand} {y : Option Opd} (h : optOpd x = some y) : x.map dOpd = y.map some := by
  cases x <;> simp [optOpd] at h
  · subst h; rfl
  · obtain ⟨z, h1, rfl⟩ := h; simp [h1]

def slimFree (P : Program) (o : Oper) : Option SOp :=
  match o.op with
  | .move x => (dOpd x).map .mv
  | .assign x => (dOpd x).map .mv
  | .pick c a b => match dOpd c, dOpd a, dOpd b with
    | some c, some a, some b => some (.pick c a b)
    | _, _, _ => none
  | .binOp op T x y _ => match dOpd x, dOpd y with
    | some x, some y =>
      if op = .eql ∨ op = .neq then match P.underlying T with
        | some .bool => some (.beq (op == .neq) x y)
        | some (.int _) => some (.bin op x y)
        | some (.struct _) => if pairOK P T then some (.peq (op == .neq) x y) else none
        | _ => none
      else some (.bin op x y)
    | _, _ => none
  | .unOp .not _ x => (dOpd x).map .not
  | .unOp .neg _ x => (dOpd x).map .neg
  | .convert T T' x => match dOpd x, P.underlying T, P.underlying T' with
    | some x, some _, some (.int k) => some (.conv k x)
    | _, _, _ => none
  | .nilCheck x => (dOpd x).map .nilc
  | .indexAddr T x i => match dOpd x, dOpd i, P.underlying T with
    | some x, some i, some (.slice e) => (szT P e).map fun sz => .idx sz x i
    | some x, some i, some (.array n e) => (szT P e).map fun sz => .aidx n sz x i
    | _, _, _ => none
  | .fieldAddr T x f => match dOpd x, P.underlying T with
    | some x, some (.struct fs) => match fs[f]? with
      | some fd => match szT P fd.type, aggT P fd.type with
        | some sz, some agg => if sz ≠ 0 ∧ (agg = false → sz = 1) then some (.fld fd.offset sz agg x) else none
        | _, _ => none
      | none => none
    | _, _ => none
  | .field T x f => match dOpd x, P.underlying T with
    | some x, some (.struct fs) => match fs[f]? with
      | some fd => match szT P fd.type, aggT P fd.type with
        | some sz, some agg => if (agg = false → sz = 1) then some (.part fd.offset sz agg x) else none
        | _, _ => none
      | none => none
    | _, _ => none
  | .load T x => match dOpd x, szT P T, aggT P T with
    | some x, some sz, some agg => if (agg = false → sz = 1) then some (.load sz agg x) else none
    | _, _, _ => none
  | .build T parts => match P.underlying T, zeroT P T with
    | some (.struct fs), some zero => match fieldPls P fs.toList with
      | some pls => (partsOf pls parts.toList).map fun ps => .build zero ps
      | none => none
    | _, _ => none
  | .buildSlice T n parts => match P.underlying T with
    | some (.slice e) => match szT P e, zeroT P e, litParts 0 parts.toList with
      | some sz, some zero, some ps => if parts.size = n ∧ sz ≠ 0 ∧ n * sz ≤ 2 ^ 24 then some (.lit e sz n zero ps) else none
      | _, _, _ => none
    | _ => none
  | .slice T x lo hi none => match P.underlying T with
    | some (.slice e) => match szT P e, dOpd x, optOpd lo, optOpd hi with
      | some sz, some x, some lo, some hi => some (.slc sz x lo hi)
      | _, _, _, _ => none
    | _ => none
  | .slice T x lo (some hi) (some mx) => match P.underlying T with
    | some (.slice e) => match szT P e, dOpd x, optOpd lo, dOpd hi, dOpd mx with
      | some sz, some x, some lo, some hi, some mx => some (.slc3 sz x lo hi mx)
      | _, _, _, _, _ => none
    | _ => none
  | .extract x i => (dOpd x).map fun x => .ext x i
  | .makeFunc (.func f) first caps => if first = #[] then (dOpds caps.toList).map fun cs => .mkf f cs else none
  | .call { callee := .value (.func f), args, argTypes := _ } => if callable P f then (dOpds args.toList).map fun as => .call f as else none
  | .call { callee := .value x, args, argTypes := _ } => match dOpd x, dOpds args.toList with
    | some x, some as => some (.callv x as)
    | _, _ => none
  | .call { callee := .builtin .len, args, argTypes } => match args.toList, argTypes[0]? with
    | [x], some T => match P.underlying T with
      | some (.slice _) => (dOpd x).map .len
      | _ => none
    | _, _ => none
  | .call { callee := .builtin .cap, args, argTypes } => match args.toList, argTypes[0]? with
    | [x], some T => match P.underlying T with
      | some (.slice _) => (dOpd x).map .cap
      | _ => none
    | _, _ => none
  | .call { callee := .builtin .max, args, argTypes := _ } => match args.toList with
    | [x, y] => match dOpd x, dOpd y with
      | some x, some y => some (.mx x y)
      | _, _ => none
    | _ => none
  | .call { callee := .builtin .min, args, argTypes := _ } => match args.toList with
    | [x, y] => match dOpd x, dOpd y with
      | some x, some y => some (.mn x y)
      | _, _ => none
    | _ => none
  | _ => none

theorem arr1 {α : Type} {xs : Array α} {x : α} (h : xs.toList = [x]) : xs = #[x] := by cases xs; simp_all
theorem arr2 {α : Type} {xs : Array α} {x y : α} (h : xs.toList = [x, y]) : xs = #[x, y] := by cases xs; simp_all

theorem slimFree_sound {P : Program} {S : Store} {o : Oper} {E : Env} {c : D → Prop} {so : SOp} (hs : slimFree P o = some so) (h : stepF P S so E c) : ∃ d, OpOK P S o E d ∧ c d := by
  unfold slimFree at hs
  split at hs
  case h_1 x hop => obtain ⟨y, h1, rfl⟩ := Option.map_eq_some_iff.1 hs; exact ok_mv (.inl hop) h1 h
  case h_2 x hop => obtain ⟨y, h1, rfl⟩ := Option.map_eq_some_iff.1 hs; exact ok_mv (.inr hop) h1 h
  case h_3 x a b hop =>
    split at hs <;> simp at hs
    subst hs
    rename_i h1 h2 h3
    exact ok_pick hop h1 h2 h3 h
  case h_4 op T x y T' hop =>
    split at hs
    · rename_i x' y' h1 h2
      split at hs
      · rename_i hop2
        split at hs
        · rename_i hT
          simp at hs; subst hs
          refine ok_beq hop h1 h2 hT ?_ h
          rcases hop2 with rfl | rfl <;> rfl
        · simp at hs; subst hs; exact ok_bin hop h1 h2 h
        · split at hs
          · rename_i hp
            simp at hs; subst hs
            refine ok_peq hop h1 h2 hp ?_ h
            rcases hop2 with rfl | rfl <;> rfl
          · simp at hs
        · simp at hs
      · simp at hs; subst hs; exact ok_bin hop h1 h2 h
    · simp at hs
  case h_5 T x hop => obtain ⟨y, h1, rfl⟩ := Option.map_eq_some_iff.1 hs; exact ok_not hop h1 h
  case h_6 T x hop => obtain ⟨y, h1, rfl⟩ := Option.map_eq_some_iff.1 hs; exact ok_neg hop h1 h
  case h_7 T T' x hop =>
    split at hs <;> simp at hs
    subst hs
    rename_i h1 h2 h3
    exact ok_conv hop h1 h2 h3 h
  case h_8 x hop => obtain ⟨y, h1, rfl⟩ := Option.map_eq_some_iff.1 hs; exact ok_nilc hop h1 h
  case h_9 T x i hop =>
    split at hs
    · rename_i h1 h2 h3
      obtain ⟨sz, h4, rfl⟩ := Option.map_eq_some_iff.1 hs
      exact ok_idx hop h3 h4 h1 h2 h
    · rename_i h1 h2 h3
      obtain ⟨sz, h4, rfl⟩ := Option.map_eq_some_iff.1 hs
      exact ok_aidx hop h3 h4 h1 h2 h
    · simp at hs
  case h_10 T x f hop =>
    split at hs
    · rename_i x' fs h1 h2
      split at hs
      · rename_i fd h3
        split at hs
        · rename_i sz agg h4 h5
          split at hs
          · rename_i h6
            simp at hs; subst hs
            exact ok_fld hop h2 h3 h4 h6.1 h6.2 h1 h
          · simp at hs
        · simp at hs
      · simp at hs
    · simp at hs
  case h_11 T x f hop =>
    split at hs
    · rename_i x' fs h1 h2
      split at hs
      · rename_i fd h3
        split at hs
        · rename_i sz agg h4 h5
          split at hs
          · rename_i h6
            simp at hs; subst hs
            exact ok_part hop h2 h3 h4 h5 h6 h1 h
          · simp at hs
        · simp at hs
      · simp at hs
    · simp at hs
  case h_12 T x hop =>
    split at hs
    · rename_i x' sz agg h1 h2 h3
      split at hs
      · rename_i h4
        simp at hs; subst hs
        exact ok_load hop h2 h3 h4 h1 h
      · simp at hs
    · simp at hs
  case h_13 T parts hop =>
    split at hs
    · rename_i fs zero h1 h2
      split at hs
      · rename_i pls h3
        obtain ⟨ps, h4, rfl⟩ := Option.map_eq_some_iff.1 hs
        exact ok_build hop h1 h2 h3 h4 h
      · simp at hs
    · simp at hs
  case h_14 T n parts hop =>
    split at hs
    · rename_i e h1
      split at hs
      · rename_i sz zero ps h2 h3 h4
        split at hs
        · rename_i h5
          simp at hs; subst hs
          exact ok_lit hop h1 h2 h3 h4 h5.1 h5.2.1 h5.2.2 h
        · simp at hs
      · simp at hs
    · simp at hs
  case h_15 T x lo hi hop =>
    split at hs
    · rename_i e h1
      split at hs
      · rename_i h2 h3 h4 h5
        simp at hs; subst hs
        exact ok_slc hop h1 h2 h3 (optOpd_eq h4) (optOpd_eq h5) h
      · simp at hs
    · simp at hs
  case h_16 T x lo hi mx hop =>
    split at hs
    · rename_i e h1
      split at hs
      · rename_i h2 h3 h4 h5 h6
        simp at hs; subst hs
        exact ok_slc3 hop h1 h2 h3 (optOpd_eq h4) h5 h6 h
      · simp at hs
    · simp at hs
  case h_17 x i hop => obtain ⟨y, h1, rfl⟩ := Option.map_eq_some_iff.1 hs; exact ok_ext hop h1 h
  case h_18 f first caps hop =>
    split at hs
    · rename_i hf
      subst hf
      obtain ⟨cs, h1, rfl⟩ := Option.map_eq_some_iff.1 hs
      exact ok_mkf hop h1 h
    · simp at hs
  case h_19 f args ats hop =>
    split at hs
    · rename_i hf
      obtain ⟨as, h1, rfl⟩ := Option.map_eq_some_iff.1 hs
      exact ok_call hop h1 hf h
    · simp at hs
  case h_20 x args ats _ hop =>
    split at hs
    · rename_i h1 h2
      simp at hs; subst hs
      exact ok_callv hop h1 h2 h
    · simp at hs
  case h_21 args ats hop =>
    split at hs
    · rename_i x T h1 h2
      split at hs
      · rename_i h3
        obtain ⟨y, h4, rfl⟩ := Option.map_eq_some_iff.1 hs
        rw [arr1 h1] at hop
        exact ok_len hop h2 h3 h4 h
      · simp at hs
    · simp at hs
  case h_22 args ats hop =>
    split at hs
    · rename_i x T h1 h2
      split at hs
      · rename_i h3
        obtain ⟨y, h4, rfl⟩ := Option.map_eq_some_iff.1 hs
        rw [arr1 h1] at hop
        exact ok_cap hop h2 h3 h4 h
      · simp at hs
    · simp at hs
  case h_23 args ats hop =>
    split at hs
    · rename_i x y h1
      rw [arr2 h1] at hop
      split at hs
      · rename_i h2 h3
        simp at hs; subst hs
        exact ok_mx hop h2 h3 h
      · simp at hs
    · simp at hs
  case h_24 args ats hop =>
    split at hs
    · rename_i x y h1
      rw [arr2 h1] at hop
      split at hs
      · rename_i h2 h3
        simp at hs; subst hs
        exact ok_mn hop h2 h3 h
      · simp at hs
    · simp at hs
  case h_25 => simp at hs

def guardOf (ops : Array Oper) (o : Oper) : Option (Option (Nat × Bool)) :=
  match o.guard with
  | none => some none
  | some (j, want) => match (ops[j]?).bind (·.dst) with
    | some t => some (some (t, want))
    | none => none

def slimFrees (P : Program) (ops : Array Oper) : List Oper → Option (List SO)
  | [] => some []
  | o :: rest => match slimFree P o, guardOf ops o, slimFrees P ops rest with
    | some so, some g, some r => some (⟨o.dst, g, so⟩ :: r)
    | _, _, _ => none

theorem put_same {E : Env} {t : Nat} {d : D} (h : E t = d) : put E (some t) d = E := by
  funext i
  simp only [put]
  split
  · rename_i e; rw [e, h]
  · rfl

theorem regF_sound {P : Program} {S : Store} {ops : Array Oper} {K : Env → Prop} : ∀ {l : List Oper} {l' : List SO} {E : Env}, slimFrees P ops l = some l' → regF P S l' E K → wpLex P S ops K l E
  | [], l', E, h, hr => by simp [slimFrees] at h; subst h; exact hr
  | o :: l, l', E, h, hr => by
    simp only [slimFrees] at h
    split at h <;> simp at h
    rename_i so g r h1 h2 h3
    subst h
    unfold guardOf at h2
    unfold regF at hr
    split at h2
    · rename_i hg
      simp at h2; subst h2
      obtain ⟨d, hd, hc⟩ := slimFree_sound h1 hr
      exact ⟨d, .inl ⟨by simp [wantD, hg], hd⟩, regF_sound h3 hc⟩
    · rename_i j want hg
      split at h2
      · rename_i t ht
        simp at h2; subst h2
        simp only at hr
        split at hr
        · rename_i b hb
          by_cases hbw : b = want
          · subst hbw
            have := hr.1 rfl
            rw [put_same hb] at this
            obtain ⟨d, hd, hc⟩ := slimFree_sound h1 this
            exact ⟨d, .inl ⟨by simp [wantD, hg, ht, hb], hd⟩, regF_sound h3 hc⟩
          · have hb2 : b = !want := by cases b <;> cases want <;> simp_all
            have := hr.2 hb2
            rw [← hb2, put_same hb] at this
            exact ⟨_, .inr ⟨by simp only [wantD, hg, ht, hb]; rw [hb2]; cases want <;> rfl, rfl⟩, regF_sound h3 this⟩
        · rename_i hb
          exact ⟨_, .inr ⟨by simp [wantD, hg, ht, hb], rfl⟩, regF_sound h3 hr⟩
        · exact hr.elim
      · simp at h2

end Go.V
