/- A part of the proofs about laws of the page tree (see the text that bears the law): a small language of steps, its rules, and what the functions of the program return. -/
import Derived.Test.YtjbihdcdamchnaaVC
import Derived.Laws.Entries
import Derived.ChangeKeysEq
import Derived.Laws.Wrap64
import Derived.Laws.StructEq
set_option linter.all false
set_option linter.unusedVariables false
set_option linter.unusedSimpArgs false
namespace Go.V

/-! shapes -/
section shapes
variable {ρ : Rho} {I : Nat → Prop} {w : World} {v : Value}
theorem rd_pv {p : PV} (hp : isAggP p = false) : RD ρ I w v (.pv p) ↔ RC I w [v] p := by
  cases p <;> simp_all [RD, RS, R1, R0, isAggP]
theorem rd_int {k : IntKind} {n : Int} : RD ρ I w v (.pv (.int k n)) ↔ v = .int k n := by
  rw [rd_pv rfl]
  constructor
  · intro h; cases h; rfl
  · rintro rfl; exact .int k n
theorem rd_bool {b : Bool} : RD ρ I w v (.pv (.bool b)) ↔ v = .bool b := by
  rw [rd_pv rfl]
  constructor
  · intro h; cases h; rfl
  · rintro rfl; exact .bool b
theorem rd_sl {xs : List PV} (h : RD ρ I w v (.pv (.sl xs))) : (xs = [] ∧ ∃ a cap, v = .slice a 0 cap ∧ cap ≤ maxLen) ∨
    ∃ b off cap sz, ∃ vs : Nat → List Value, v = .slice (some ⟨b, off, none⟩) xs.length cap ∧ xs.length ≤ cap ∧ cap ≤ maxLen ∧ I b ∧
      (∀ i, i < xs.length → (vs i).length = sz) ∧ (∀ i, i < xs.length → CellsAt w b (off + i * sz) (vs i)) ∧ (∀ i (h : i < xs.length), RC I w (vs i) xs[i]) := by
  rw [rd_pv rfl] at h
  cases h with
  | sl0 a cap h => exact .inl ⟨rfl, a, cap, rfl, h⟩
  | sl xs b off cap sz n vs hn h1 h2 h3 h4 h5 h6 => subst hn; exact .inr ⟨b, off, cap, sz, vs, rfl, h1, h2, h3, h4, h5, h6⟩
theorem rd_sl' {xs : List PV} (h : RD ρ I w v (.pv (.sl xs))) : ∃ a cap, v = .slice a xs.length cap ∧ xs.length ≤ cap ∧ cap ≤ maxLen := by
  rcases rd_sl h with ⟨rfl, a, cap, rfl, h0⟩ | ⟨b, off, cap, sz, vs, rfl, h1, h2, _⟩
  · exact ⟨a, cap, rfl, Nat.zero_le _, h0⟩
  · exact ⟨_, cap, rfl, h1, h2⟩
theorem rd_con {p : PV} (h : RD ρ I w v (.pv (.con p))) : ∃ b off, ∃ vs : List Value, v = .pointer (some ⟨b, off, none⟩) ∧ I b ∧ CellsAt w b off vs ∧ RC I w vs p := by
  rw [rd_pv rfl] at h
  cases h with
  | con b off vs p h1 h2 h3 => exact ⟨b, off, vs, rfl, h1, h2, h3⟩
theorem rd_agg {ps : List PV} : RD ρ I w v (.pv (.agg ps)) ↔ ∃ vs : List Value, v = .agg vs.toArray ∧ RC I w vs (.agg ps) := by
  simp [RD, RS]
theorem rd_dagg {cs : List D} : RD ρ I w v (.agg cs) ↔ ∃ vs : List Value, v = .agg vs.toArray ∧ vs.length = cs.length ∧ ∀ i (h : i < vs.length) (h' : i < cs.length), R1 ρ I w vs[i] cs[i] := by
  simp [RD, RS]
theorem rc_agg {ps : List PV} {vs : List Value} (h : RC I w vs (.agg ps)) : vs.length = ps.length ∧ ∀ i (h : i < vs.length) (h' : i < ps.length), RC I w [vs[i]] ps[i] := by
  cases h with
  | agg _ _ h1 h2 => exact ⟨h1, h2⟩
theorem rd_of_r1 {d : D} (hd : ∀ cs, d ≠ .agg cs) (hd' : ∀ ps, d ≠ .pv (.agg ps)) (hd'' : ∀ ds, d ≠ .tup ds) (h : R1 ρ I w v d) : RD ρ I w v d := by
  cases d with
  | agg cs => exact absurd rfl (hd cs)
  | tup ds => exact absurd rfl (hd'' ds)
  | pv p => cases p <;> first | exact absurd rfl (hd' _) | exact h
  | _ => exact h
theorem rd_ptr {o i j : Nat} : RD ρ I w v (.ptr o i j) ↔ ∃ b sz, ρ[o]? = some (some (b, sz)) ∧ v = .pointer (some ⟨b, i * sz + j, none⟩) := by
  simp [RD, RS, R1, R0]
theorem rd_own {o n : Nat} : RD ρ I w v (.own o n) ↔ R0 ρ I w v (.own o n) := by
  simp [RD, RS, R1]
theorem rd_sub {o off n cap : Nat} : RD ρ I w v (.sub o off n cap) ↔ R0 ρ I w v (.sub o off n cap) := by
  simp [RD, RS, R1]
theorem rd_nils : RD ρ I w v .nils ↔ ∃ a : Option Addr, v = .slice a 0 0 := by
  simp [RD, RS, R1, R0]
theorem rd_undef : RD ρ I w v .undef ↔ v = Go.undef := by
  simp [RD, RS, R1, R0]
theorem rd_any : RD ρ I w v .any := by simp [RD, RS, R1, R0]
/-- single cells -/
theorem single_of_rc {p : PV} (h : RC I w [v] p) (hp : isAggP p = false) : v.cells = #[v] := by
  cases h <;> first | rfl | simp [isAggP] at hp
end shapes

theorem dOf1_sound {ρ : Rho} {I : Nat → Prop} {w : World} {v : Value} {d : D} (h : dOf1 v = some d) : RD ρ I w v d ∧ R1 ρ I w v d := by
  unfold dOf1 at h
  split at h <;> simp at h <;> subst h
  · exact ⟨rd_int.2 rfl, .int _ _⟩
  · exact ⟨rd_bool.2 rfl, .bool _⟩
  · exact ⟨rd_nils.2 ⟨_, rfl⟩, ⟨_, rfl⟩⟩
  · exact ⟨(rd_pv rfl).2 .nilp, .nilp⟩
theorem dOfs_sound {ρ : Rho} {I : Nat → Prop} {w : World} : ∀ {vs : List Value} {ds : List D}, dOfs vs = some ds →
    vs.length = ds.length ∧ ∀ i (h : i < vs.length) (h' : i < ds.length), R1 ρ I w vs[i] ds[i]
  | [], ds, h => by simp [dOfs] at h; subst h; simp
  | v :: vs, ds, h => by
    simp only [dOfs] at h
    split at h <;> simp at h
    rename_i d ds' h1 h2
    subst h
    obtain ⟨h3, h4⟩ := dOfs_sound (ρ := ρ) (I := I) (w := w) h2
    refine ⟨by simp [h3], fun i hi hi' => ?_⟩
    cases i with
    | zero => exact (dOf1_sound h1).2
    | succ i => exact h4 i (by simpa using hi) (by simpa using hi')
theorem dOf_sound {ρ : Rho} {I : Nat → Prop} {w : World} {v : Value} {d : D} (h : dOf v = some d) : RD ρ I w v d := by
  unfold dOf at h
  split at h
  · rename_i cs
    simp only [Option.map_eq_some_iff] at h
    obtain ⟨ds, h1, rfl⟩ := h
    obtain ⟨h2, h3⟩ := dOfs_sound (ρ := ρ) (I := I) (w := w) h1
    exact rd_dagg.2 ⟨cs.toList, by simp, h2, h3⟩
  · exact (dOf1_sound h).1

theorem dOpd_sound {ρ : Rho} {I : Nat → Prop} {w : World} {a : Act} {E : Env} {x : Operand} {y : Opd} (h : dOpd x = some y)
    (he : ∀ t, x = .tmp t → RD ρ I w (a.tmps.getD t Go.undef) (E t)) : RD ρ I w (a.eval x) (ev E y) := by
  cases x with
  | tmp t => simp [dOpd] at h; subst h; exact he t rfl
  | const v =>
    simp only [dOpd, Option.map_eq_some_iff] at h
    obtain ⟨d, h1, rfl⟩ := h
    exact dOf_sound h1
  | func f =>
    simp [dOpd] at h; subst h
    exact (rd_pv rfl).2 (.clo f [] [] rfl (by simp) (by simp))
  | global g => simp [dOpd] at h

def dOpds : List Operand → Option (List Opd)
  | [] => some []
  | x :: xs => match dOpd x, dOpds xs with
    | some y, some ys => some (y :: ys)
    | _, _ => none

/-! numbers -/
theorem wrap_of_inR {k : IntKind} {n : Int} (h : inR k n) : k.wrap n = n := by
  obtain ⟨h1, h2⟩ := h
  cases k <;> simp [IntKind.min, IntKind.max, IntKind.wrap, IntKind.bits, IntKind.signed] at * <;> (try split) <;> omega

theorem wp_value {P : Program} {o : Oper} {a : Act} {w w' : World} {next : Act → World → Prop} {Q : Exit → Act → World → Prop} {u : Value}
    (h : (execOp a.eval o).run P w = .ok (.value u) w') (hn : next (a.put o.dst u) w') : o.wp P a w next Q := by
  unfold Oper.wp; rw [h]; exact hn

theorem opOK_run {P : Program} {S : Store} {o : Oper} {E : Env} {d : D}
    (h : ∀ (ρ : Rho) (I : Nat → Prop) (w : World) (a : Act), StR ρ I w S → (∀ t ∈ Oper.slots o, RD ρ I w (a.tmps.getD t Go.undef) (E t)) →
      ∃ u I' w', (execOp a.eval o).run P w = .ok (.value u) w' ∧ Grow I w I' w' ∧ RD ρ I' w' u d) : OpOK P S o E d := by
  intro ρ I w a next Q hs he hn
  obtain ⟨u, I', w', h1, h2, h3⟩ := h ρ I w a hs he
  exact wp_value h1 (hn u I' w' h2 h3)

/-- no memory is touched -/
theorem opOK_pure {P : Program} {S : Store} {o : Oper} {E : Env} {d : D}
    (h : ∀ (ρ : Rho) (I : Nat → Prop) (w : World) (a : Act), StR ρ I w S → (∀ t ∈ Oper.slots o, RD ρ I w (a.tmps.getD t Go.undef) (E t)) →
      ∃ u, (execOp a.eval o).run P w = .ok (.value u) w ∧ RD ρ I w u d) : OpOK P S o E d :=
  opOK_run fun ρ I w a hs he => by
    obtain ⟨u, h1, h2⟩ := h ρ I w a hs he
    exact ⟨u, I, w, h1, Grow.refl _ _, h2⟩

section ops
variable {P : Program} {S : Store} {o : Oper} {E : Env} {c : D → Prop}

theorem slots_mem {o : Oper} {t : Nat} (h : Operand.tmp t ∈ o.op.operands) : t ∈ Oper.slots o :=
  List.mem_filterMap.2 ⟨.tmp t, by simpa using h, rfl⟩

theorem ok_mv {x : Operand} {y : Opd} (hop : o.op = .move x ∨ o.op = .assign x) (hx : dOpd x = some y) (h : stepF P S (.mv y) E c) : ∃ d, OpOK P S o E d ∧ c d := by
  refine ⟨_, opOK_pure fun ρ I w a hs he => ⟨a.eval x, ?_, dOpd_sound hx fun t ht => he t (slots_mem ?_)⟩, h⟩
  · rcases hop with h | h <;> simp [execOp, h]
  · rcases hop with h | h <;> simp [h, Op.operands, ht]

theorem ok_pick {x a b : Operand} {x' a' b' : Opd} (hop : o.op = .pick x a b) (hx : dOpd x = some x') (ha : dOpd a = some a') (hb : dOpd b = some b')
    (h : stepF P S (.pick x' a' b') E c) : ∃ d, OpOK P S o E d ∧ c d := by
  simp only [stepF] at h
  split at h
  · rename_i t ht
    refine ⟨if t then ev E a' else ev E b', opOK_pure fun ρ I w ac hs he => ?_, by cases t <;> simp_all⟩
    have h1 := dOpd_sound hx fun t ht => he t (slots_mem (by simp [hop, Op.operands, ht]))
    have h2 := dOpd_sound ha fun t ht => he t (slots_mem (by simp [hop, Op.operands, ht]))
    have h3 := dOpd_sound hb fun t ht => he t (slots_mem (by simp [hop, Op.operands, ht]))
    rw [ht, rd_bool] at h1
    refine ⟨if t then ac.eval a else ac.eval b, by simp [execOp, hop, h1, asBool], by cases t <;> simp_all⟩
  · exact h.elim


theorem run_eqGuard_int (op : BinOp) (T : TypeId) (x y : Operand) (k k' : IntKind) (a b : Int) (w : World) : (eqGuard op T x y (.int k a) (.int k' b)).run P w = .ok () w := by
  unfold eqGuard; split <;> rfl
theorem run_eqGuard_bool (op : BinOp) (T : TypeId) (x y : Operand) (a b : Bool) (w : World) : (eqGuard op T x y (.bool a) (.bool b)).run P w = .ok () w := by
  unfold eqGuard; split <;> rfl

theorem nat_xor_lt {a b n : Nat} (ha : a < 2 ^ n) (hb : b < 2 ^ n) : a ^^^ b < 2 ^ n := Nat.xor_lt_two_pow ha hb

theorem run_binI {op : BinOp} {T : TypeId} {k k' : IntKind} {a b : Int} (hk : k = k' ∨ op = .shr) (h : binI op k a b c) :
    ∃ u d, (∀ w, (binOp op T (.int k a) (.int k' b)).run P w = .ok u w) ∧ (∀ (ρ : Rho) I w, RD ρ I w u d) ∧ c d := by
  cases op <;> simp only [binI] at h
  case add =>
    obtain rfl : k = k' := by simpa using hk
    exact ⟨.int k (a + b), _, fun w => by simp [binOp, Op.intArith, wrap_of_inR h.1], fun _ _ _ => rd_int.2 rfl, h.2⟩
  case sub =>
    obtain rfl : k = k' := by simpa using hk
    exact ⟨.int k (a - b), _, fun w => by simp [binOp, Op.intArith, wrap_of_inR h.1], fun _ _ _ => rd_int.2 rfl, h.2⟩
  case mul =>
    obtain rfl : k = k' := by simpa using hk
    exact ⟨.int k (a * b), _, fun w => by simp [binOp, Op.intArith, wrap_of_inR h.1], fun _ _ _ => rd_int.2 rfl, h.2⟩
  case quo =>
    obtain rfl : k = k' := by simpa using hk
    obtain ⟨⟨h1, h2, h3⟩, h4⟩ := h
    exact ⟨.int k (a / b), _, fun w => by simp [binOp, Op.intDiv, Int.ne_of_gt h2, Int.tdiv_eq_ediv_of_nonneg h1, wrap_of_inR h3], fun _ _ _ => rd_int.2 rfl, h4⟩
  case rem =>
    obtain rfl : k = k' := by simpa using hk
    obtain ⟨⟨h1, h2⟩, h4⟩ := h
    exact ⟨.int k (a % b), _, fun w => by simp [binOp, Op.intDiv, Int.ne_of_gt h2, Int.tmod_eq_emod_of_nonneg h1], fun _ _ _ => rd_int.2 rfl, h4⟩
  case xor =>
    obtain rfl : k = k' := by simpa using hk
    obtain ⟨⟨h1, h2, h3, h4⟩, h5⟩ := h
    refine ⟨.int k ((a.toNat ^^^ b.toNat : Nat) : Int), _, fun w => ?_, fun _ _ _ => rd_int.2 rfl, h5⟩
    obtain ⟨x, rfl⟩ := Int.eq_ofNat_of_zero_le h1
    obtain ⟨y, rfl⟩ := Int.eq_ofNat_of_zero_le h2
    have hx : x < 2 ^ k.bits := by cases k <;> simp [IntKind.max, IntKind.bits, IntKind.signed] at * <;> omega
    have hy : y < 2 ^ k.bits := by cases k <;> simp [IntKind.max, IntKind.bits, IntKind.signed] at * <;> omega
    have hxy : ((x ^^^ y : Nat) : Int) ≤ k.max := by
      have hx' : x < 2 ^ (if k.signed then k.bits - 1 else k.bits) := by cases k <;> simp [IntKind.max, IntKind.bits, IntKind.signed] at * <;> omega
      have hy' : y < 2 ^ (if k.signed then k.bits - 1 else k.bits) := by cases k <;> simp [IntKind.max, IntKind.bits, IntKind.signed] at * <;> omega
      have := nat_xor_lt hx' hy'
      cases k <;> simp [IntKind.max, IntKind.bits, IntKind.signed] at * <;> omega
    have hin : inR k ((x ^^^ y : Nat) : Int) := ⟨by have : k.min ≤ 0 := by cases k <;> simp [IntKind.min, IntKind.bits, IntKind.signed]
                                                    omega, hxy⟩
    simp only [binOp, Op.intBits, ne_eq, not_true_eq_false, if_false, Sem.run_pure]
    have e : (BitVec.ofInt k.bits (x : Int) ^^^ BitVec.ofInt k.bits (y : Int)).toNat = x ^^^ y := by
      rw [BitVec.toNat_xor]
      simp [Nat.mod_eq_of_lt hx, Nat.mod_eq_of_lt hy]
    rw [e, wrap_of_inR hin]
    simp
  case shr =>
    obtain ⟨⟨h1, h2, h3⟩, h4⟩ := h
    refine ⟨.int k (a / 2 ^ b.toNat), _, fun w => ?_, fun _ _ _ => rd_int.2 rfl, h4⟩
    have hm : min b.toNat k.bits = b.toNat := by cases k <;> simp [IntKind.bits] <;> omega
    have hnn : ¬ b < 0 := by omega
    simp only [binOp, Op.shift, hnn, if_false, hm, Sem.run_pure]
    rw [Int.fdiv_eq_ediv_of_nonneg _ (by exact Int.le_of_lt (Int.pow_pos (by decide)))]
  all_goals
    first
      | exact h.elim
      | (obtain rfl : k = k' := by simpa using hk
         refine ⟨_, _, fun w => ?_, fun _ _ _ => rd_bool.2 rfl, h⟩
         simp [binOp, Op.intCmp, bne]
         try rfl)

theorem ok_bin {op : BinOp} {T T' : TypeId} {x y : Operand} {x' y' : Opd} (hop : o.op = .binOp op T x y T') (hx : dOpd x = some x') (hy : dOpd y = some y')
    (h : stepF P S (.bin op x' y') E c) : ∃ d, OpOK P S o E d ∧ c d := by
  simp only [stepF] at h
  unfold binD at h
  split at h
  · rename_i k a k' b e1 e2
    obtain ⟨hk, hb⟩ := h
    obtain ⟨u, d, h1, h2, h3⟩ := run_binI (P := P) (T := T) hk hb
    refine ⟨d, opOK_pure fun ρ I w ac hs he => ⟨u, ?_, h2 _ _ _⟩, h3⟩
    have g1 := dOpd_sound hx fun t ht => he t (slots_mem (by simp [hop, Op.operands, ht]))
    have g2 := dOpd_sound hy fun t ht => he t (slots_mem (by simp [hop, Op.operands, ht]))
    rw [e1, rd_int] at g1
    rw [e2, rd_int] at g2
    simp [execOp, hop, g1, g2, run_eqGuard_int, h1]
  · exact h.elim

theorem ok_beq {op : BinOp} {ng : Bool} {T T' : TypeId} {x y : Operand} {x' y' : Opd} (hop : o.op = .binOp op T x y T') (hx : dOpd x = some x') (hy : dOpd y = some y')
    (hT : P.underlying T = some .bool) (hng : op = if ng then .neq else .eql)
    (h : stepF P S (.beq ng x' y') E c) : ∃ d, OpOK P S o E d ∧ c d := by
  simp only [stepF] at h
  split at h
  · rename_i a b e1 e2
    refine ⟨_, opOK_pure fun ρ I w ac hs he => ⟨.bool (if ng then !(a == b) else a == b), ?_, rd_bool.2 rfl⟩, h⟩
    have g1 := dOpd_sound hx fun t ht => he t (slots_mem (by simp [hop, Op.operands, ht]))
    have g2 := dOpd_sound hy fun t ht => he t (slots_mem (by simp [hop, Op.operands, ht]))
    rw [e1, rd_bool] at g1
    rw [e2, rd_bool] at g2
    have he : ∀ n, (Op.equalIn (n + 1) T (.bool a) (.bool b)).run P w = .ok (a == b) w := fun n => by
      simp [Op.equalIn, run_underlying hT]
    cases ng <;> subst hng <;> simp [execOp, hop, g1, g2, run_eqGuard_bool, binOp, Op.equal, Op.maxDepth, he]
  · exact h.elim

/-- a struct of two integers -/
def pairOK (P : Program) (T : TypeId) : Bool :=
  match P.underlying T with
  | some (.struct fs) => match fs.toList with
    | [f0, f1] => f0.name != "_" && f1.name != "_" && f0.offset == 0 && f1.offset == 1 &&
      (match P.underlying f0.type with | some (.int _) => true | _ => false) && (match P.underlying f1.type with | some (.int _) => true | _ => false) &&
      !P.stoodInHeld T && !P.eqGuardType P.depth T
    | _ => false
  | _ => false

theorem isInt_of {P : Program} {t : TypeId} (h : (match P.underlying t with | some (.int _) => true | _ => false) = true) : ∃ k, P.underlying t = some (.int k) := by
  split at h
  · rename_i k hk; exact ⟨k, hk⟩
  · simp at h

theorem cells_two {ρ : Rho} {I : Nat → Prop} {w : World} {v : Value} {d : D} {k l : IntKind} {a b : Int} (hd : RD ρ I w v d) (h : cellsD d = some [.pv (.int k a), .pv (.int l b)]) :
    v = .agg #[.int k a, .int l b] := by
  cases d with
  | agg cs =>
    simp [cellsD] at h; subst h
    obtain ⟨vs, rfl, h1, h2⟩ := rd_dagg.1 hd
    match vs, h1 with
    | [x, y], _ =>
      have e1 := h2 0 (by simp) (by simp)
      have e2 := h2 1 (by simp) (by simp)
      simp [R1, R0] at e1 e2
      cases e1; cases e2; rfl
  | pv p =>
    cases p with
    | agg ps =>
      simp [cellsD] at h
      obtain ⟨vs, rfl, h1⟩ := rd_agg.1 hd
      match ps, h with
      | [p, q], h =>
        simp at h
        obtain ⟨rfl, rfl⟩ := h
        obtain ⟨h3, h4⟩ := rc_agg h1
        match vs, h3 with
        | [x, y], _ =>
          have e1 := h4 0 (by simp) (by simp)
          have e2 := h4 1 (by simp) (by simp)
          simp at e1 e2
          cases e1; cases e2; rfl
    | _ => simp [cellsD] at h
  | _ => simp [cellsD] at h

theorem ok_peq {op : BinOp} {ng : Bool} {T T' : TypeId} {x y : Operand} {x' y' : Opd} (hop : o.op = .binOp op T x y T') (hx : dOpd x = some x') (hy : dOpd y = some y')
    (hT : pairOK P T = true) (hng : op = if ng then .neq else .eql)
    (h : stepF P S (.peq ng x' y') E c) : ∃ d, OpOK P S o E d ∧ c d := by
  simp only [stepF] at h
  split at h
  · rename_i k a l b k' a' l' b' e1 e2
    obtain ⟨⟨rfl, rfl⟩, h⟩ := h
    refine ⟨_, opOK_pure fun ρ I w ac hs he => ⟨.bool (if ng then !(decide (a = a') && decide (b = b')) else decide (a = a') && decide (b = b')), ?_, rd_bool.2 rfl⟩, h⟩
    have g1 := cells_two (dOpd_sound hx fun t ht => he t (slots_mem (by simp [hop, Op.operands, ht]))) e1
    have g2 := cells_two (dOpd_sound hy fun t ht => he t (slots_mem (by simp [hop, Op.operands, ht]))) e2
    unfold pairOK at hT
    split at hT
    · rename_i fs hu
      split at hT
      · rename_i f0 f1 hfs
        simp only [Bool.and_eq_true, bne_iff_ne, ne_eq, beq_iff_eq, Bool.not_eq_true'] at hT
        obtain ⟨⟨⟨⟨⟨⟨⟨n0, n1⟩, o0⟩, o1⟩, i0⟩, i1⟩, hst⟩, hgt⟩ := hT
        obtain ⟨k0, u0⟩ := isInt_of i0
        obtain ⟨k1, u1⟩ := isInt_of i1
        have hfo : P.fieldsOf T = fs := by simp [Program.fieldsOf, hu]
        have pt : ∀ (t : TypeId) (kk : IntKind) (cs : Array Value) (i : Nat) (v : Value), P.underlying t = some (.int kk) → cs[i]? = some v → (part t cs i).run P w = .ok v w := fun t kk cs i v hh hv => by
          simp [part, isAgg, run_underlying hh, hv]
        have q0 : (part f0.type #[.int k a, .int l b] 0).run P w = .ok (.int k a) w := pt _ _ _ _ _ u0 rfl
        have q1 : (part f1.type #[.int k a, .int l b] 1).run P w = .ok (.int l b) w := pt _ _ _ _ _ u1 rfl
        have q2 : (part f0.type #[.int k a', .int l b'] 0).run P w = .ok (.int k a') w := pt _ _ _ _ _ u0 rfl
        have q3 : (part f1.type #[.int k a', .int l b'] 1).run P w = .ok (.int l b') w := pt _ _ _ _ _ u1 rfl
        have EQ : (Op.equalIn 10000 T (.agg #[.int k a, .int l b]) (.agg #[.int k a', .int l b'])).run P w = .ok (decide (a = a') && decide (b = b')) w := by
          rw [run_equalIn_struct w 9999 T _ _ (by rw [hfo]; exact hu) hst, hfo, hfs]
          have e0 : (Op.equalIn 9999 f0.type (.int k a) (.int k a')).run P w = .ok (a == a') w := run_equalIn_int w 9998 f0.type k k0 a a' u0
          have e1 : (Op.equalIn 9999 f1.type (.int l b) (.int l b')).run P w = .ok (b == b') w := run_equalIn_int w 9998 f1.type l k1 b b' u1
          simp only [Op.eqFields, ne_eq, n0, n1, not_false_eq_true, if_true, o0, o1, Sem.run_bind, q0, q2, Result.andThen_ok, e0, Sem.run_ite, Sem.run_pure]
          by_cases ha : a = a'
          · subst ha
            by_cases hb : b = b'
            · subst hb; simp [q1, e1]
            · simp [q1, q3, e1, hb]
          · simp [ha]
        have hguard := run_eqGuard_agg (P := P) w op T x y #[.int k a, .int l b] #[.int k a', .int l b'] hgt
        have q4 := run_eql_struct (P := P) w T #[.int k a, .int l b] #[.int k a', .int l b']
        have q5 := run_neq_struct (P := P) w T #[.int k a, .int l b] #[.int k a', .int l b']
        rw [EQ] at q4 q5
        cases ng <;> subst hng
        · simp only [Bool.false_eq_true, if_false] at hguard ⊢
          simp only [execOp, hop, g1, g2, Sem.run_bind, hguard, Result.andThen_ok, if_false, Bool.false_eq_true, q4, Sem.run_pure]
        · simp only [if_true] at hguard ⊢
          simp only [execOp, hop, g1, g2, Sem.run_bind, hguard, Result.andThen_ok, if_true, q5, Sem.run_pure]
      · simp at hT
    · simp at hT
  · exact h.elim

theorem ok_not {x : Operand} {x' : Opd} {T : TypeId} (hop : o.op = .unOp .not T x) (hx : dOpd x = some x') (h : stepF P S (.not x') E c) : ∃ d, OpOK P S o E d ∧ c d := by
  simp only [stepF] at h
  split at h
  · rename_i t ht
    refine ⟨_, opOK_pure fun ρ I w ac hs he => ⟨.bool (!t), ?_, rd_bool.2 rfl⟩, h⟩
    have h1 := dOpd_sound hx fun t ht => he t (slots_mem (by simp [hop, Op.operands, ht]))
    rw [ht, rd_bool] at h1
    simp [execOp, hop, h1, Op.unary]
  · exact h.elim
theorem ok_neg {x : Operand} {x' : Opd} {T : TypeId} (hop : o.op = .unOp .neg T x) (hx : dOpd x = some x') (h : stepF P S (.neg x') E c) : ∃ d, OpOK P S o E d ∧ c d := by
  simp only [stepF] at h
  split at h
  · rename_i k n ht
    refine ⟨_, opOK_pure fun ρ I w ac hs he => ⟨.int k (-n), ?_, rd_int.2 rfl⟩, h.2⟩
    have h1 := dOpd_sound hx fun t ht => he t (slots_mem (by simp [hop, Op.operands, ht]))
    rw [ht, rd_int] at h1
    have := wrap_of_inR h.1
    simp [execOp, hop, h1, Op.unary, Op.intArith, this]
  · exact h.elim
theorem ok_conv {x : Operand} {x' : Opd} {T T' : TypeId} {td : TypeDesc} {k : IntKind} (hop : o.op = .convert T T' x) (hx : dOpd x = some x') (hT : P.underlying T = some td) (hT' : P.underlying T' = some (.int k))
    (h : stepF P S (.conv k x') E c) : ∃ d, OpOK P S o E d ∧ c d := by
  simp only [stepF] at h
  split at h
  · rename_i k0 n ht
    refine ⟨_, opOK_pure fun ρ I w ac hs he => ⟨.int k n, ?_, rd_int.2 rfl⟩, h.2⟩
    have h1 := dOpd_sound hx fun t ht => he t (slots_mem (by simp [hop, Op.operands, ht]))
    rw [ht, rd_int] at h1
    have := wrap_of_inR h.1
    simp [execOp, hop, h1, convert, run_underlying hT, run_underlying hT', Conv.intToInt, this]
  · exact h.elim

theorem ok_len {x : Operand} {x' : Opd} {T : TypeId} {e : TypeId} {ats : Array TypeId} (hop : o.op = .call { callee := .builtin .len, args := #[x], argTypes := ats }) (hT0 : ats[0]? = some T)
    (hT : P.underlying T = some (.slice e)) (hx : dOpd x = some x')
    (h : stepF P S (.len x') E c) : ∃ d, OpOK P S o E d ∧ c d := by
  simp only [stepF] at h
  have main : ∀ (ρ : Rho) (I : Nat → Prop) (w : World) (ac : Act), (∀ t ∈ Oper.slots o, RD ρ I w (ac.tmps.getD t Go.undef) (E t)) →
      RD ρ I w (ac.eval x) (ev E x') ∧ ∀ a n cap, ac.eval x = .slice a n cap → (execOp ac.eval o).run P w = .ok (.value (.int .i64 n)) w := fun ρ I w ac he =>
    ⟨dOpd_sound hx fun t ht => he t (slots_mem (by simp [hop, Op.operands, Call.operands, ht])), fun a n cap hv => by
      simp [execOp, hop, resolve, invoke, builtin, Builtin.len_, hv, run_underlying hT, hT0, goInt]⟩
  split at h
  · rename_i xs hxs
    refine ⟨_, opOK_pure fun ρ I w ac hs he => ?_, h⟩
    obtain ⟨h1, h2⟩ := main ρ I w ac he
    rw [hxs] at h1
    obtain ⟨a, cap, h3, _⟩ := rd_sl' h1
    exact ⟨_, h2 _ _ _ h3, rd_int.2 rfl⟩
  · rename_i hxs
    refine ⟨_, opOK_pure fun ρ I w ac hs he => ?_, h⟩
    obtain ⟨h1, h2⟩ := main ρ I w ac he
    rw [hxs, rd_nils] at h1
    obtain ⟨a, h3⟩ := h1
    exact ⟨_, h2 _ _ _ h3, rd_int.2 rfl⟩
  · rename_i o' n hxs
    refine ⟨_, opOK_pure fun ρ I w ac hs he => ?_, h⟩
    obtain ⟨h1, h2⟩ := main ρ I w ac he
    rw [hxs, rd_own] at h1
    obtain ⟨b, sz, cap, cs, E', _, h3, _⟩ := h1
    exact ⟨_, h2 _ _ _ h3, rd_int.2 rfl⟩
  · rename_i o' off n cap hxs
    refine ⟨_, opOK_pure fun ρ I w ac hs he => ?_, h⟩
    obtain ⟨h1, h2⟩ := main ρ I w ac he
    rw [hxs, rd_sub] at h1
    obtain ⟨b, sz, cs, E', _, h3, _⟩ := h1
    exact ⟨_, h2 _ _ _ h3, rd_int.2 rfl⟩
  · exact h.elim

theorem ok_cap {x : Operand} {x' : Opd} {T : TypeId} {e : TypeId} {ats : Array TypeId} (hop : o.op = .call { callee := .builtin .cap, args := #[x], argTypes := ats }) (hT0 : ats[0]? = some T)
    (hT : P.underlying T = some (.slice e)) (hx : dOpd x = some x')
    (h : stepF P S (.cap x') E c) : ∃ d, OpOK P S o E d ∧ c d := by
  simp only [stepF] at h
  split at h
  · rename_i o' off n cap hxs
    refine ⟨_, opOK_pure fun ρ I w ac hs he => ?_, h⟩
    have h1 := dOpd_sound (ρ := ρ) (I := I) (w := w) (a := ac) hx fun t ht => he t (slots_mem (by simp [hop, Op.operands, Call.operands, ht]))
    rw [hxs, rd_sub] at h1
    obtain ⟨b, sz, cs, E', _, h3, _⟩ := h1
    exact ⟨.int .i64 cap, by simp [execOp, hop, resolve, invoke, builtin, Builtin.cap_, h3, run_underlying hT, hT0, goInt], rd_int.2 rfl⟩
  · rename_i hxs
    refine ⟨_, opOK_pure fun ρ I w ac hs he => ?_, h⟩
    have h1 := dOpd_sound (ρ := ρ) (I := I) (w := w) (a := ac) hx fun t ht => he t (slots_mem (by simp [hop, Op.operands, Call.operands, ht]))
    rw [hxs, rd_nils] at h1
    obtain ⟨a, h3⟩ := h1
    exact ⟨.int .i64 0, by simp [execOp, hop, resolve, invoke, builtin, Builtin.cap_, h3, run_underlying hT, hT0, goInt], rd_int.2 rfl⟩
  · exact h.elim

theorem ok_mx {x y : Operand} {x' y' : Opd} {ats : Array TypeId} (hop : o.op = .call { callee := .builtin .max, args := #[x, y], argTypes := ats })
    (hx : dOpd x = some x') (hy : dOpd y = some y') (h : stepF P S (.mx x' y') E c) : ∃ d, OpOK P S o E d ∧ c d := by
  simp only [stepF] at h
  split at h
  · rename_i k a k' b e1 e2
    refine ⟨_, opOK_pure fun ρ I w ac hs he => ⟨.int k (max a b), ?_, rd_int.2 rfl⟩, h⟩
    have g1 := dOpd_sound hx fun t ht => he t (slots_mem (by simp [hop, Op.operands, Call.operands, ht]))
    have g2 := dOpd_sound hy fun t ht => he t (slots_mem (by simp [hop, Op.operands, Call.operands, ht]))
    rw [e1, rd_int] at g1
    rw [e2, rd_int] at g2
    simp [execOp, hop, resolve, invoke, builtin, Builtin.max_, Builtin.max2, g1, g2]
    split <;> omega
  · exact h.elim
theorem ok_mn {x y : Operand} {x' y' : Opd} {ats : Array TypeId} (hop : o.op = .call { callee := .builtin .min, args := #[x, y], argTypes := ats })
    (hx : dOpd x = some x') (hy : dOpd y = some y') (h : stepF P S (.mn x' y') E c) : ∃ d, OpOK P S o E d ∧ c d := by
  simp only [stepF] at h
  split at h
  · rename_i k a k' b e1 e2
    refine ⟨_, opOK_pure fun ρ I w ac hs he => ⟨.int k (min a b), ?_, rd_int.2 rfl⟩, h⟩
    have g1 := dOpd_sound hx fun t ht => he t (slots_mem (by simp [hop, Op.operands, Call.operands, ht]))
    have g2 := dOpd_sound hy fun t ht => he t (slots_mem (by simp [hop, Op.operands, Call.operands, ht]))
    rw [e1, rd_int] at g1
    rw [e2, rd_int] at g2
    simp [execOp, hop, resolve, invoke, builtin, Builtin.min_, Builtin.min2, g1, g2]
    split <;> omega
  · exact h.elim

theorem ok_nilc {x : Operand} {x' : Opd} (hop : o.op = .nilCheck x) (hx : dOpd x = some x') (h : stepF P S (.nilc x') E c) : ∃ d, OpOK P S o E d ∧ c d := by
  simp only [stepF] at h
  have main : ∀ (ρ : Rho) (I : Nat → Prop) (w : World) (ac : Act), (∀ t ∈ Oper.slots o, RD ρ I w (ac.tmps.getD t Go.undef) (E t)) →
      RD ρ I w (ac.eval x) (ev E x') := fun ρ I w ac he => dOpd_sound hx fun t ht => he t (slots_mem (by simp [hop, Op.operands, ht]))
  split at h
  · rename_i p hp
    refine ⟨_, opOK_pure fun ρ I w ac hs he => ?_, h⟩
    have h1 := main ρ I w ac he
    rw [hp] at h1
    obtain ⟨b, off, vs, h2, _⟩ := rd_con h1
    exact ⟨ac.eval x, by simp [execOp, hop, h2], h1⟩
  · rename_i o' i j hp
    refine ⟨_, opOK_pure fun ρ I w ac hs he => ?_, h⟩
    have h1 := main ρ I w ac he
    rw [hp] at h1
    obtain ⟨b, sz, _, h2⟩ := rd_ptr.1 h1
    exact ⟨ac.eval x, by simp [execOp, hop, h2], h1⟩
  · rename_i f ps hp
    refine ⟨_, opOK_pure fun ρ I w ac hs he => ?_, h⟩
    have h1 := main ρ I w ac he
    rw [hp] at h1
    have h3 := (rd_pv rfl).1 h1
    generalize hv : ac.eval x = v at *
    cases h3
    exact ⟨_, by simp [execOp, hop, hv], h1⟩
  · rename_i f ps hp
    refine ⟨_, opOK_pure fun ρ I w ac hs he => ?_, h⟩
    have h1 := main ρ I w ac he
    rw [hp] at h1
    have h3 : R1 ρ I w (ac.eval x) (.clo f ps) := h1
    obtain ⟨vs, h2, _⟩ := h3
    exact ⟨ac.eval x, by simp [execOp, hop, h2], h1⟩
  · exact h.elim

end ops
end Go.V
