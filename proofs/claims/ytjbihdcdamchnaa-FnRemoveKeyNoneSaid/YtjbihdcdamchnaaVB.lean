/- A part of the proofs about laws of the page tree (see the text that bears the law): a small language of steps, its rules, and what the functions of the program return. -/
import Derived.Test.YtjbihdcdamchnaaVA
set_option linter.all false
set_option linter.unusedVariables false
set_option linter.unusedSimpArgs false
namespace Go.V

abbrev Env := Nat → D

inductive Opd where
  | t (n : Nat)
  | c (d : D)
  deriving Inhabited

def ev (E : Env) : Opd → D
  | .t n => E n
  | .c d => d

def put (E : Env) (dst : Option Nat) (d : D) : Env :=
  match dst with
  | none => E
  | some t => fun i => if i = t then d else E i

inductive SOp where
  | mv (x : Opd)
  | pick (c a b : Opd)
  | bin (op : BinOp) (x y : Opd)
  | beq (ng : Bool) (x y : Opd)
  | peq (ng : Bool) (x y : Opd)
  | not (x : Opd)
  | neg (x : Opd)
  | conv (k : IntKind) (x : Opd)
  | len (x : Opd)
  | cap (x : Opd)
  | slc3 (sz : Nat) (x : Opd) (lo : Option Opd) (hi mx : Opd)
  | isnil (ng : Bool) (x : Opd)
  | appz (ty sz bytes : Nat) (zero : D) (x n : Opd)
  | copy (sz : Nat) (x y : Opd)
  | clear (sz : Nat) (zero : D) (x : Opd)
  | ovl (f : FuncId) (x y : Opd)
  | dead
  | nilc (x : Opd)
  | idx (sz : Nat) (x i : Opd)
  | aidx (n sz : Nat) (x i : Opd)
  | fld (off sz : Nat) (agg : Bool) (x : Opd)
  | part (off sz : Nat) (agg : Bool) (x : Opd)
  | load (sz : Nat) (agg : Bool) (x : Opd)
  | build (zero : List D) (parts : List (Nat × Nat × Opd))
  | lit (ty sz n : Nat) (zero : List D) (parts : List (Nat × Opd))
  | slc (sz : Nat) (x : Opd) (lo hi : Option Opd)
  | ext (x : Opd) (i : Nat)
  | call (f : FuncId) (args : List Opd)
  | callv (x : Opd) (args : List Opd)
  | mkf (f : FuncId) (caps : List Opd)
  | mx (x y : Opd)
  | mn (x y : Opd)
  | box (ty sz : Nat) (x : Opd)
  | alloc (ty sz : Nat) (zero : D)
  | store (sz : Nat) (x y : Opd)
  | mks (ty sz bytes : Nat) (zero : D) (n : Opd)
  | app (ty sz bytes : Nat) (x y : Opd)
  deriving Inhabited

structure SO where
  dst : Option Nat
  guard : Option (Nat × Bool)
  op : SOp
  deriving Inhabited

/-- the operations of a region, in the order in which they are walked; 'or': both orders are walked -/
inductive RT where
  | nil
  | op (o : SO) (t : RT)
  | or (a b : RT)
  | last (o : SO)
  deriving Inhabited
def RT.ofL : List SO → RT
  | [] => .nil
  | o :: r => .op o (RT.ofL r)

inductive SCode where
  | skip
  | reg (m : Nat) (t : RT)
  | seq (a b : SCode)
  | cond (c : Opd) (a b : SCode)
  | block (id : Nat) (c : SCode)
  | loop (c : SCode)
  | exit (id : Nat)
  | ret
  deriving Inhabited

/-! data of values -/
def dOf1 : Value → Option D
  | .int k n => some (.pv (.int k n))
  | .bool b => some (.pv (.bool b))
  | .slice none 0 0 => some .nils
  | .pointer none => some (.pv .nilp)
  | _ => none
def dOfs : List Value → Option (List D)
  | [] => some []
  | v :: vs => match dOf1 v, dOfs vs with
    | some d, some ds => some (d :: ds)
    | _, _ => none
def dOf : Value → Option D
  | .agg cs => (dOfs cs.toList).map .agg
  | v => dOf1 v

def dOpd : Operand → Option Opd
  | .tmp t => some (.t t)
  | .const v => (dOf v).map .c
  | .func f => some (.c (.pv (.clo f [])))
  | .global _ => none

/-! reading slices -/
def asSl : D → Option (List PV)
  | .pv (.sl xs) => some xs
  | .nils => some []
  | _ => none

def slR : D → List PV → D
  | .nils, _ => .nils
  | _, ys => .pv (.sl ys)

def ofPV : PV → D
  | .tup ps => .tup (ps.map .pv)
  | p => .pv p

/-- pure, without own objects -/
def toPV0 : D → Option PV
  | .pv (.tup _) => none
  | .pv (.agg _) => none
  | .pv p => some p
  | .nils => some (.sl [])
  | _ => none
def toPV0s : List D → Option (List PV)
  | [] => some []
  | d :: ds => match toPV0 d, toPV0s ds with
    | some p, some ps => some (p :: ps)
    | _, _ => none
def toPV1 : D → Option PV
  | .clo f caps => (toPV0s caps).map (.clo f)
  | d => toPV0 d
def toPV1s : List D → Option (List PV)
  | [] => some []
  | d :: ds => match toPV1 d, toPV1s ds with
    | some p, some ps => some (p :: ps)
    | _, _ => none
def toPV : D → Option PV
  | .agg cs => (toPV1s cs).map .agg
  | .pv (.agg ps) => some (.agg ps)
  | d => toPV1 d
def toPVs : List D → Option (List PV)
  | [] => some []
  | d :: ds => match toPV d, toPVs ds with
    | some p, some ps => some (p :: ps)
    | _, _ => none

def RDs (ρ : Rho) (I : Nat → Prop) (w : World) : List Value → List D → Prop
  | [], [] => True
  | v :: vs, d :: ds => RD ρ I w v d ∧ RDs ρ I w vs ds
  | _, _ => False
def RVs (I : Nat → Prop) (w : World) : List Value → List PV → Prop
  | [], [] => True
  | v :: vs, p :: ps => RD [] I w v (.pv p) ∧ RVs I w vs ps
  | _, _ => False

/-- CONTRACT of a function: pure arguments, all that was there stays, a pure result. -/
def PCon (P : Program) (f : FuncId) (ps : List PV) (Post : PV → Prop) : Prop :=
  ∀ (I : Nat → Prop) (w : World) (vs : List Value), (∀ b, I b → b < w.heap.size) → RVs I w vs ps →
    Calls P f vs.toArray w fun e w' => ∃ u p I', e = .returned u ∧ Post p ∧ Grow I w I' w' ∧ RD [] I' w' u (ofPV p)

theorem PCon.mono {P : Program} {f : FuncId} {ps : List PV} {Post Post' : PV → Prop} (h : PCon P f ps Post) (hp : ∀ p, Post p → Post' p) : PCon P f ps Post' :=
  fun I w vs hI hv => (h I w vs hI hv).mono fun _ _ ⟨u, p, I', h1, h2, h3⟩ => ⟨u, p, I', h1, hp p h2, h3⟩

def inR (k : IntKind) (n : Int) : Prop := k.min ≤ n ∧ n ≤ k.max

def binI (op : BinOp) (k : IntKind) (a b : Int) (c : D → Prop) : Prop :=
  match op with
  | .add => inR k (a + b) ∧ c (.pv (.int k (a + b)))
  | .sub => inR k (a - b) ∧ c (.pv (.int k (a - b)))
  | .mul => inR k (a * b) ∧ c (.pv (.int k (a * b)))
  | .quo => (0 ≤ a ∧ 0 < b ∧ inR k (a / b)) ∧ c (.pv (.int k (a / b)))
  | .rem => (0 ≤ a ∧ 0 < b) ∧ c (.pv (.int k (a % b)))
  | .xor => (0 ≤ a ∧ 0 ≤ b ∧ a ≤ k.max ∧ b ≤ k.max) ∧ c (.pv (.int k ((a.toNat ^^^ b.toNat : Nat) : Int)))
  | .shr => (0 ≤ a ∧ 0 ≤ b ∧ b ≤ 8) ∧ c (.pv (.int k (a / 2 ^ b.toNat)))
  | .eql => c (.pv (.bool (decide (a = b))))
  | .neq => c (.pv (.bool (!decide (a = b))))
  | .lss => c (.pv (.bool (decide (a < b))))
  | .leq => c (.pv (.bool (decide (a ≤ b))))
  | .gtr => c (.pv (.bool (decide (b < a))))
  | .geq => c (.pv (.bool (decide (b ≤ a))))
  | _ => False

def binD (op : BinOp) (x y : D) (c : D → Prop) : Prop :=
  match x, y with
  | .pv (.int k a), .pv (.int k' b) => (k = k' ∨ op = .shr) ∧ binI op k a b c
  | _, _ => False


/-- single data -/
def isOne : D → Bool
  | .agg _ => false
  | .pv (.agg _) => false
  | .tup _ => false
  | _ => true

def fldP (off sz : Nat) (agg : Bool) (cs : List PV) (c : PV → Prop) : Prop :=
  if agg then off + sz ≤ cs.length ∧ c (.agg ((cs.drop off).take sz))
  else ∃ h : off < cs.length, c cs[off]

def fldD (off sz : Nat) (agg : Bool) (cs : List D) (c : D → Prop) : Prop :=
  if agg then off + sz ≤ cs.length ∧ c (.agg ((cs.drop off).take sz))
  else ∃ h : off < cs.length, isOne cs[off] = true ∧ c cs[off]

def optI (E : Env) (o : Option Opd) (dflt : Int) : Option Int :=
  match o with
  | none => some dflt
  | some x => match ev E x with
    | .pv (.int _ n) => some n
    | _ => none

def callable (P : Program) (f : FuncId) : Bool :=
  match P.funcs[f]? with
  | some fn => fn.body.isSome && !(fn.name == "runtime.NumGoroutine")
  | none => false

/-- cells of a value of a slot -/
def cellsD : D → Option (List D)
  | .agg cs => some cs
  | .pv (.agg ps) => some (ps.map .pv)
  | .pv (.tup _) => none
  | .tup _ => none
  | .undef => none
  | .any => none
  | d => some [d]

def setAt (cs : List D) (off : Nat) (ds : List D) : List D := cs.take off ++ ds ++ cs.drop (off + ds.length)

def fillD (E : Env) : List D → List (Nat × Nat × Opd) → Option (List D)
  | cs, [] => some cs
  | cs, (off, sz, x) :: rest => match cellsD (ev E x) with
    | some ds => if ds.length = sz ∧ off + sz ≤ cs.length then fillD E (setAt cs off ds) rest else none
    | none => none

/-- a literal that gives every element, in order -/
def litD (E : Env) (sz : Nat) : Nat → List (Nat × Opd) → Option (List PV)
  | _, [] => some []
  | n, (_, x) :: rest => match toPV (ev E x), litD E sz n rest with
    | some p, some ps => some (p :: ps)
    | _, _ => none

def isR0 : D → Bool
  | .pv (.agg _) => false
  | .pv (.tup _) => false
  | .pv _ => true
  | .nils => true
  | .ptr _ _ _ => true
  | .own _ _ => true
  | .sub _ _ _ _ => true
  | _ => false

/-- ONE OPERATION THAT TOUCHES NO OWN OBJECT BUT TO READ IT. -/
def stepF (P : Program) (S : Store) (op : SOp) (E : Env) (c : D → Prop) : Prop :=
  match op with
  | .mv x => c (ev E x)
  | .pick x a b => match ev E x with
    | .pv (.bool t) => (t = true → c (ev E a)) ∧ (t = false → c (ev E b))
    | _ => False
  | .bin op x y => binD op (ev E x) (ev E y) c
  | .beq ng x y => match ev E x, ev E y with
    | .pv (.bool a), .pv (.bool b) => c (.pv (.bool (if ng then !(a == b) else a == b)))
    | _, _ => False
  | .peq ng x y => match cellsD (ev E x), cellsD (ev E y) with
    | some [.pv (.int k a), .pv (.int l b)], some [.pv (.int k' a'), .pv (.int l' b')] =>
      (k = k' ∧ l = l') ∧ c (.pv (.bool (if ng then !(decide (a = a') && decide (b = b')) else decide (a = a') && decide (b = b'))))
    | _, _ => False
  | .not x => match ev E x with
    | .pv (.bool t) => c (.pv (.bool (!t)))
    | _ => False
  | .neg x => match ev E x with
    | .pv (.int k n) => inR k (-n) ∧ c (.pv (.int k (-n)))
    | _ => False
  | .conv k x => match ev E x with
    | .pv (.int _ n) => inR k n ∧ c (.pv (.int k n))
    | _ => False
  | .len x => match ev E x with
    | .pv (.sl xs) => c (.pv (.int .i64 xs.length))
    | .nils => c (.pv (.int .i64 0))
    | .own _ n => c (.pv (.int .i64 n))
    | .sub _ _ n _ => c (.pv (.int .i64 n))
    | _ => False
  | .cap x => match ev E x with
    | .sub _ _ _ m => c (.pv (.int .i64 m))
    | .nils => c (.pv (.int .i64 0))
    | _ => False
  | .nilc x => match ev E x with
    | .pv (.con p) => c (.pv (.con p))
    | .ptr o i j => c (.ptr o i j)
    | .pv (.clo f ps) => c (.pv (.clo f ps))
    | .clo f ps => c (.clo f ps)
    | _ => False
  | .idx sz x i => match ev E x, ev E i with
    | .pv (.sl xs), .pv (.int _ n) => 0 ≤ n ∧ ∃ h : n.toNat < xs.length, xs[n.toNat].nc = sz ∧ c (.pv (.con xs[n.toNat]))
    | .own o m, .pv (.int _ n) => (0 ≤ n ∧ n < m ∧ ∃ ob, S[o]? = some (some ob) ∧ ob.sz = sz) ∧ c (.ptr o n.toNat 0)
    | _, _ => False
  | .aidx len sz x i => match ev E x, ev E i with
    | .pv (.con (.agg cs)), .pv (.int _ n) => (0 ≤ n ∧ n < len ∧ sz = 1) ∧ ∃ h : n.toNat < cs.length, c (.pv (.con cs[n.toNat]))
    | .ptr o a b, .pv (.int _ n) => (0 ≤ n ∧ n < len) ∧ c (.ptr o a (b + n.toNat * sz))
    | _, _ => False
  | .fld off sz agg x => match ev E x with
    | .pv (.con (.agg cs)) => fldP off sz agg cs fun p => c (.pv (.con p))
    | .ptr o i j => c (.ptr o i (j + off))
    | _ => False
  | .part off sz agg x => match ev E x with
    | .pv (.agg cs) => fldD off sz agg (cs.map .pv) c
    | .agg cs => fldD off sz agg cs c
    | _ => False
  | .load sz agg x => match ev E x with
    | .pv (.con p) => (p.nc = sz ∧ isAggP p = agg) ∧ c (.pv p)
    | .ptr o i j => match S[o]? with
      | some (some ob) => ∃ h : i < ob.xs.length, match cellsD ob.xs[i] with
        | some cs => cs.length = ob.sz ∧ fldD j sz agg cs c
        | none => False
      | _ => False
    | _ => False
  | .build zero parts => match fillD E zero parts with
    | some cs => c (.agg cs)
    | none => False
  | .slc sz x lo hi => match asSl (ev E x) with
    | some xs => match optI E lo 0, optI E hi xs.length with
      | some l, some h => (0 ≤ l ∧ l ≤ h ∧ h ≤ xs.length ∧ ∀ x ∈ xs, x.nc = sz) ∧ c (slR (ev E x) ((xs.take h.toNat).drop l.toNat))
      | _, _ => False
    | none => match ev E x with
      | .own o n => match optI E lo 0, optI E hi n with
        | some l, some h => (l = 0 ∧ 0 ≤ h ∧ h ≤ n) ∧ c (.own o h.toNat)
        | _, _ => False
      | .sub o off n m => match optI E lo 0, optI E hi n with
        | some l, some h => (0 ≤ l ∧ l ≤ h ∧ h ≤ m ∧ ∃ ob, S[o]? = some (some ob) ∧ ob.sz = sz) ∧ c (if m = l.toNat then .nils else .sub o (off + l.toNat) (h - l).toNat (m - l.toNat))
        | _, _ => False
      | _ => False
  | .slc3 _ x lo hi mx => match ev E x with
    | .sub _ _ n m => match optI E lo 0, optI E (some hi) 0, optI E (some mx) 0 with
      | some l, some h, some k => (0 ≤ l ∧ l ≤ h ∧ h ≤ k ∧ k ≤ m) ∧ c .any
      | _, _, _ => False
    | _ => False
  | .ext x i => match ev E x with
    | .tup ds => ∃ h : i < ds.length, c ds[i]
    | _ => False
  | .call f args => match toPVs (args.map (ev E)) with
    | some ps => ∃ r, PCon P f ps (fun p => p = r) ∧ c (ofPV r)
    | none => False
  | .callv x args => match toPV (ev E x), toPVs (args.map (ev E)) with
    | some (.clo f caps), some ps => callable P f = true ∧ ∃ r, PCon P f (ps ++ caps) (fun p => p = r) ∧ c (ofPV r)
    | _, _ => False
  | .mx x y => match ev E x, ev E y with
    | .pv (.int k a), .pv (.int _ b) => c (.pv (.int k (max a b)))
    | _, _ => False
  | .mn x y => match ev E x, ev E y with
    | .pv (.int k a), .pv (.int _ b) => c (.pv (.int k (min a b)))
    | _, _ => False
  | .mkf f caps => (∀ y ∈ caps, isR0 (ev E y) = true) ∧ c (.clo f (caps.map (ev E)))
  | .lit _ sz n zero parts => if n = 0 then c .nils else match litD E sz n parts with
    | some xs => (∀ x ∈ xs, x.nc = sz) ∧ zero.length = sz ∧ c (.pv (.sl xs))
    | none => False
  | _ => False

def regF (P : Program) (S : Store) : List SO → Env → (Env → Prop) → Prop
  | [], E, K => K E
  | o :: rest, E, K => match o.guard with
    | none => stepF P S o.op E fun d => regF P S rest (put E o.dst d) K
    | some (g, want) => match E g with
      | .pv (.bool t) => (t = want → stepF P S o.op (put E (some g) (.pv (.bool want))) fun d => regF P S rest (put (put E (some g) (.pv (.bool want))) o.dst d) K) ∧
          (t = !want → regF P S rest (put (put E (some g) (.pv (.bool (!want)))) o.dst .undef) K)
      | .undef => regF P S rest (put E o.dst .undef) K
      | _ => False

end Go.V
