/- A part of the proofs about laws of the page tree (see the text that bears the law): a small language of steps, its rules, and what the functions of the program return. -/
import Derived.Test.YtjbihdcdamchnaaVL2
set_option linter.all false
set_option linter.unusedVariables false
set_option linter.unusedSimpArgs false
namespace Go.V

/-! a part of the objects, numbered anew -/
def posOf : List Nat → Nat → Option Nat
  | [], _ => none
  | x :: xs, o => if x = o then some 0 else (posOf xs o).map (· + 1)
theorem posOf_some : ∀ {os : List Nat} {o k : Nat}, posOf os o = some k → os[k]? = some o
  | [], _, _, h => by simp [posOf] at h
  | x :: xs, o, k, h => by
    simp only [posOf] at h
    split at h
    · simp at h; subst h; simp_all
    · obtain ⟨j, h1, rfl⟩ := Option.map_eq_some_iff.1 h
      simpa using posOf_some h1
theorem posOf_none : ∀ {os : List Nat} {o : Nat}, posOf os o = none → o ∉ os
  | [], _, _ => by simp
  | x :: xs, o, h => by
    simp only [posOf] at h
    split at h
    · simp at h
    · rename_i hne
      simp at h
      have := posOf_none h
      simp only [List.mem_cons, not_or]
      exact ⟨fun e => hne e.symm, this⟩

def inv (os : List Nat) : D → D
  | .ptr o i j => match posOf os o with
    | some k => .ptr k i j
    | none => .any
  | .own o n => match posOf os o with
    | some k => .own k n
    | none => .any
  | .sub o off n cap => match posOf os o with
    | some k => .sub k off n cap
    | none => .any
  | d => d
def mpOb (m : D → D) (ob : Ob) : Ob := { ob with xs := ob.xs.map (mpS m) }
def subS (os : List Nat) (S : Store) : Store := os.map fun o => (S.getD o none).map (mpOb (inv os))
def subR (os : List Nat) (ρ : Rho) : Rho := os.map fun o => ρ.getD o none

section sub
variable {ρ : Rho} {I : Nat → Prop} {w : World} {S : Store} {os : List Nat}
theorem subR_get {k b sz : Nat} : (subR os ρ)[k]? = some (some (b, sz)) ↔ ∃ o, os[k]? = some o ∧ ρ[o]? = some (some (b, sz)) := by
  simp only [subR, List.getElem?_map, Option.map_eq_some_iff]
  constructor
  · rintro ⟨o, h1, h2⟩
    refine ⟨o, h1, ?_⟩
    rw [List.getD_eq_getElem?_getD] at h2
    cases h : ρ[o]? with
    | none => simp [h] at h2
    | some x => simp [h] at h2; rw [h2]
  · rintro ⟨o, h1, h2⟩
    exact ⟨o, h1, by rw [List.getD_eq_getElem?_getD, h2]; rfl⟩
theorem subS_get {k : Nat} {ob' : Ob} (h : (subS os S)[k]? = some (some ob')) : ∃ o ob, os[k]? = some o ∧ S[o]? = some (some ob) ∧ ob' = mpOb (inv os) ob := by
  simp only [subS, List.getElem?_map, Option.map_eq_some_iff] at h
  obtain ⟨o, h1, ob, h2, h3⟩ := h
  refine ⟨o, ob, h1, ?_, h3.symm⟩
  rw [List.getD_eq_getElem?_getD] at h2
  cases h : S[o]? with
  | none => simp [h] at h2
  | some x => simp [h] at h2; rw [h2]
theorem sub_mp : Mp (inv os) ρ I w (subR os ρ) I w where
  im := fun b hb => ⟨hb, rfl⟩
  ptr := fun v o i j h => by
    simp only [inv]
    split
    · rename_i k hk
      obtain ⟨b, sz, h1, h2⟩ := h
      exact ⟨⟨b, sz, subR_get.2 ⟨o, posOf_some hk, h1⟩, h2⟩, rfl⟩
    · exact ⟨trivial, rfl⟩
  own := fun v o n h => by
    simp only [inv]
    split
    · rename_i k hk
      obtain ⟨b, sz, cap, cs, E, h1, h2⟩ := h
      exact ⟨⟨b, sz, cap, cs, E, subR_get.2 ⟨o, posOf_some hk, h1⟩, h2⟩, rfl⟩
    · exact ⟨trivial, rfl⟩
  sub := fun v o f n c h => by
    simp only [inv]
    split
    · rename_i k hk
      obtain ⟨b, sz, cs, E, h1, h2⟩ := h
      exact ⟨⟨b, sz, cs, E, subR_get.2 ⟨o, posOf_some hk, h1⟩, h2⟩, rfl⟩
    · exact ⟨trivial, rfl⟩
theorem mpOb_ok {m : D → D} {ρ' : Rho} {I' : Nat → Prop} {w' : World} (t : Mp m ρ I w ρ' I' w') {b sz : Nat} {ob : Ob} (h : ObOK ρ I w b sz ob) (hb : w'.heap[b]? = w.heap[b]?) : ObOK ρ' I' w' b sz (mpOb m ob) := by
  obtain ⟨h1, cs, h2, h3, h4⟩ := h
  refine ⟨h1, cs, by rw [hb]; exact h2, by simpa [mpOb] using h3, fun i hi => ?_⟩
  simp only [mpOb, List.getElem_map]
  exact RDc.mp t (h4 i (by simpa [mpOb] using hi))
theorem sub_st (hs : St ρ I w S) (hnd : os.Nodup) : St (subR os ρ) I w (subS os S) where
  len := by simp [subR, subS]
  old := hs.old
  obs := fun k ob' h => by
    obtain ⟨o, ob, h1, h2, rfl⟩ := subS_get h
    obtain ⟨b, sz, h3, h4⟩ := hs.obs o ob h2
    exact ⟨b, sz, subR_get.2 ⟨o, h1, h3⟩, mpOb_ok sub_mp h4 rfl⟩
  lt := fun k b sz h => by
    obtain ⟨o, _, h1⟩ := subR_get.1 h
    exact hs.lt o b sz h1
  apart := fun k b sz ob' hS h => by
    obtain ⟨o, h1, h2⟩ := subR_get.1 h
    obtain ⟨o', ob, h3, h4, _⟩ := subS_get hS
    rw [h1] at h3; simp at h3; subst h3
    exact hs.apart o b sz ob h4 h2
  inj := fun k k' b sz sz' ob1 ob2 hS hS' h h' => by
    obtain ⟨o, h1, h2⟩ := subR_get.1 h
    obtain ⟨o', h1', h2'⟩ := subR_get.1 h'
    obtain ⟨q, ob, h3, h4, _⟩ := subS_get hS
    obtain ⟨q', ob', h3', h4', _⟩ := subS_get hS'
    rw [h1] at h3; simp at h3; subst h3
    rw [h1'] at h3'; simp at h3'; subst h3'
    have := hs.inj o o' b sz sz' ob ob' h4 h4' h2 h2'
    subst this
    exact (List.getElem?_inj (List.getElem?_eq_some_iff.1 h1).1 hnd).1 (h1.trans h1'.symm)
end sub

/-! the frame of a call -/
def extO (os : List Nat) (n k : Nat) : Nat := if h : k < os.length then os[k] else n + (k - os.length)
def fwd (os : List Nat) (n : Nat) : D → D
  | .ptr k i j => .ptr (extO os n k) i j
  | .own k m => .own (extO os n k) m
  | .sub k off m cap => .sub (extO os n k) off m cap
  | d => d
def mergeS (os : List Nat) (S S1 : Store) : Store :=
  ((List.range S.length).map fun x => match posOf os x with
    | some k => (S1.getD k none).map (mpOb (fwd os S.length))
    | none => S.getD x none) ++ (S1.drop os.length).map (Option.map (mpOb (fwd os S.length)))

theorem extO_inj {os : List Nat} {n k k' : Nat} (hnd : os.Nodup) (hlt : ∀ o ∈ os, o < n) (h : extO os n k = extO os n k') : k = k' := by
  unfold extO at h
  split at h <;> split at h
  · rename_i h1 h2
    exact (List.getElem?_inj h1 hnd).1 (by rw [List.getElem?_eq_getElem h1, List.getElem?_eq_getElem h2, h])
  · rename_i h1 h2
    have := hlt _ (List.getElem_mem h1); omega
  · rename_i h1 h2
    have := hlt _ (List.getElem_mem h2); omega
  · omega

theorem getD_some {S : Store} {o : Nat} {ob : Ob} (h : S.getD o none = some ob) : S[o]? = some (some ob) := by
  rw [List.getD_eq_getElem?_getD] at h
  cases h' : S[o]? with
  | none => simp [h'] at h
  | some x => simp [h'] at h; rw [h]

theorem mergeS_get {os : List Nat} {S S1 : Store} {x : Nat} {ob' : Ob} (h : (mergeS os S S1)[x]? = some (some ob')) :
    (∃ k ob1, x = extO os S.length k ∧ S1[k]? = some (some ob1) ∧ ob' = mpOb (fwd os S.length) ob1) ∨ (x < S.length ∧ x ∉ os ∧ S[x]? = some (some ob')) := by
  unfold mergeS at h
  rw [List.getElem?_append] at h
  split at h
  · rename_i hx
    simp only [List.length_map, List.length_range] at hx
    simp only [List.getElem?_map, List.getElem?_range hx, Option.map_some, Option.some.injEq] at h
    split at h
    · rename_i k hk
      simp only [Option.map_eq_some_iff] at h
      obtain ⟨ob1, h1, h2⟩ := h
      have := posOf_some hk
      obtain ⟨hlt, he⟩ := List.getElem?_eq_some_iff.1 this
      exact .inl ⟨k, ob1, by simp [extO, hlt, he], getD_some h1, h2.symm⟩
    · rename_i hk
      exact .inr ⟨hx, posOf_none hk, getD_some h⟩
  · rename_i hx
    simp only [List.length_map, List.length_range, Nat.not_lt] at hx
    simp only [List.length_map, List.length_range, List.getElem?_map, List.getElem?_drop, Option.map_eq_some_iff] at h
    obtain ⟨y, h1, ob1, h2, h3⟩ := h
    subst h2
    exact .inl ⟨os.length + (x - S.length), ob1, by unfold extO; rw [dif_neg (by omega)]; omega, h1, h3.symm⟩

theorem RDs.mp {m : D → D} {ρ ρ' : Rho} {I I' : Nat → Prop} {w w' : World} (t : Mp m ρ I w ρ' I' w') : ∀ {vs : List Value} {ds : List D}, RDs ρ I w vs ds → RDs ρ' I' w' vs (ds.map (mpD m))
  | [], [], _ => trivial
  | _ :: _, _ :: _, h => ⟨RD.mp t h.1, RDs.mp t h.2⟩
  | [], _ :: _, h => h.elim
  | _ :: _, [], h => h.elim

/-- **THE FRAME**: a contract over the objects that the call is given serves among others. -/
theorem CallS.frame {P : Program} {f : FuncId} {ds : List D} {S : Store} {c c1 : D → Store → Prop} (os : List Nat) (hnd : os.Nodup) (hlive : ∀ o ∈ os, ∃ ob, S[o]? = some (some ob))
    (h : CallS P f (ds.map (mpD (inv os))) (subS os S) c1) (hc : ∀ d S1, c1 d S1 → c (mpD (fwd os S.length) d) (mergeS os S S1)) : CallS P f ds S c := by
  intro ρ I w vs hs hv
  refine (h (subR os ρ) I w vs (sub_st hs hnd) (RDs.mp sub_mp hv)).mono ?_
  rintro e w' ⟨u, d, ρ1, I', S1, he, hc1, hs1, hu, hx⟩
  have hlt : ∀ o ∈ os, o < S.length := fun o ho => by obtain ⟨ob, h1⟩ := hlive o ho; exact (List.getElem?_eq_some_iff.1 h1).1
  have hkeep : os.length ≤ ρ1.length := by have := hx.kept; simp [subR, subS] at this; exact this
  have hsl : (subS os S).length = os.length := by simp [subS]
  -- what each object of the call was
  have hlv : ∀ k, k < os.length → ∃ (o : Nat) (ob : Ob) (b sz : Nat), os[k]? = some o ∧ S[o]? = some (some ob) ∧ ρ[o]? = some (some (b, sz)) ∧ (subR os ρ)[k]? = some (some (b, sz)) ∧ ρ1[k]? = some (some (b, sz)) := fun k hk => by
    obtain ⟨ob, h1⟩ := hlive _ (List.getElem_mem hk)
    obtain ⟨b, sz, h2, _⟩ := hs.obs _ ob h1
    have h3 : (subR os ρ)[k]? = some (some (b, sz)) := subR_get.2 ⟨_, List.getElem?_eq_getElem hk, h2⟩
    exact ⟨_, ob, b, sz, List.getElem?_eq_getElem hk, h1, h2, h3, (hx.fix k b sz (by rw [hsl]; exact hk) h3).1⟩
  let ρ' : Rho := ρ ++ ρ1.drop os.length
  have hold : ∀ (o : Nat) (x : Nat × Nat), ρ[o]? = some (some x) → ρ'[o]? = some (some x) := fun o x h1 => by
    simp only [ρ']; rw [List.getElem?_append_left (List.getElem?_eq_some_iff.1 h1).1]; exact h1
  have hfw : ∀ k b sz : Nat, ρ1[k]? = some (some (b, sz)) → ρ'[extO os S.length k]? = some (some (b, sz)) := fun k b sz h1 => by
    unfold extO
    split
    · rename_i hk
      obtain ⟨o, ob, b', sz', g1, g2, g3, g4, g5⟩ := hlv k hk
      rw [g5] at h1; simp at h1; obtain ⟨rfl, rfl⟩ := h1
      obtain ⟨_, g6⟩ := List.getElem?_eq_some_iff.1 g1
      rw [g6]
      exact hold o _ g3
    · rename_i hk
      simp only [ρ']
      rw [List.getElem?_append_right (by rw [hs.len]; omega), hs.len, List.getElem?_drop]
      rw [show os.length + (S.length + (k - os.length) - S.length) = k by omega]
      exact h1
  have hbl : ∀ o b sz : Nat, ρ[o]? = some (some (b, sz)) → ∀ (cs : Array Value) (E : TypeId), w.heap[b]? = some (Obj.cells cs E (0, 0)) → ∃ cs' : Array Value, w'.heap[b]? = some (Obj.cells cs' E (0, 0)) ∧ cs'.size = cs.size := fun o b sz ho cs E hcs => by
    by_cases hin : ∃ k sz' : Nat, (subR os ρ)[k]? = some (some (b, sz'))
    · obtain ⟨k, sz', hk⟩ := hin
      have hkl : k < (subS os S).length := by
        have := (List.getElem?_eq_some_iff.1 hk).1
        simpa [subR, subS] using this
      exact (hx.fix k b sz' hkl hk).2 cs E hcs
    · refine ⟨cs, ?_, rfl⟩
      rw [hx.block b (hs.lt o b sz ho) fun k sz' hk => hin ⟨k, sz', hk⟩]
      exact hcs
  have hout : ∀ (x : Nat) (ob : Ob) (b sz : Nat), S[x]? = some (some ob) → x ∉ os → ρ[x]? = some (some (b, sz)) → ∀ k sz' : Nat, (subR os ρ)[k]? ≠ some (some (b, sz')) := fun x ob b sz hS hn hρ k sz' hk => by
    obtain ⟨o, h1, h2⟩ := subR_get.1 hk
    obtain ⟨hk1, hk2⟩ := List.getElem?_eq_some_iff.1 h1
    have hmem : o ∈ os := hk2 ▸ List.getElem_mem hk1
    obtain ⟨ob', h3⟩ := hlive o hmem
    have := hs.inj x o b sz sz' ob ob' hS h3 hρ h2
    exact hn (this ▸ hmem)
  have tr : Tr ρ I w ρ' I' w' := ⟨hx.im, fun o b sz ho => ⟨hold o _ ho, hbl o b sz ho⟩⟩
  have mpF : Mp (fwd os S.length) ρ1 I' w' ρ' I' w' := {
    im := fun b hb => ⟨hb, rfl⟩
    ptr := fun v o i j hr => by
      obtain ⟨b, sz, h1, h2⟩ := hr
      exact ⟨⟨b, sz, hfw o b sz h1, h2⟩, rfl⟩
    own := fun v o n hr => by
      obtain ⟨b, sz, cap, cs, E, h1, h2⟩ := hr
      exact ⟨⟨b, sz, cap, cs, E, hfw o b sz h1, h2⟩, rfl⟩
    sub := fun v o f n c hr => by
      obtain ⟨b, sz, cs, E, h1, h2⟩ := hr
      exact ⟨⟨b, sz, cs, E, hfw o b sz h1, h2⟩, rfl⟩ }
  have ext : Ext S.length ρ I w ρ' I' w' := by
    refine tr.ext hx.os hx.tape hx.output hx.size (by simp [ρ']) (fun k hk hn => hx.block k hk fun o sz ho => ?_) (fun b hb => ?_) fun o b sz ho => ?_
    · obtain ⟨o', _, h2⟩ := subR_get.1 ho
      exact hn o' sz h2
    · rcases hx.inew b hb with h1 | h1 | ⟨o, sz, h1⟩
      · exact .inl h1
      · exact .inr (.inl h1)
      · obtain ⟨o', _, h2⟩ := subR_get.1 h1
        exact .inr (.inr ⟨o', sz, h2⟩)
    · simp only [ρ'] at ho
      rw [List.getElem?_append] at ho
      split at ho
      · exact .inl ⟨o, sz, ho⟩
      · rw [List.getElem?_drop] at ho
        rcases hx.rnew _ b sz ho with ⟨o', sz', h1⟩ | h1
        · obtain ⟨o'', _, h2⟩ := subR_get.1 h1
          exact .inl ⟨o'', sz', h2⟩
        · exact .inr h1
  have hml : (mergeS os S S1).length = S.length + (S1.length - os.length) := by simp [mergeS]
  refine ⟨u, _, ρ', I', _, he, hc d S1 hc1, ?_, RD.mp mpF hu, ext⟩
  -- what each live object is
  have cas : ∀ (x : Nat) (ob' : Ob) (b sz : Nat), (mergeS os S S1)[x]? = some (some ob') → ρ'[x]? = some (some (b, sz)) →
      (∃ (k : Nat) (ob1 : Ob), x = extO os S.length k ∧ S1[k]? = some (some ob1) ∧ ob' = mpOb (fwd os S.length) ob1 ∧ ρ1[k]? = some (some (b, sz))) ∨ (x ∉ os ∧ S[x]? = some (some ob') ∧ ρ[x]? = some (some (b, sz))) := fun x ob' b sz hS hρ => by
    rcases mergeS_get hS with ⟨k, ob1, rfl, h2, h3⟩ | ⟨h1, h2, h3⟩
    · obtain ⟨b1, sz1, h4, _⟩ := hs1.obs k ob1 h2
      have h5 := hfw k b1 sz1 h4
      rw [h5] at hρ; simp at hρ; obtain ⟨rfl, rfl⟩ := hρ
      exact .inl ⟨k, ob1, rfl, h2, h3, h4⟩
    · obtain ⟨b1, sz1, h4, _⟩ := hs.obs x ob' h3
      have h5 := hold x _ h4
      rw [h5] at hρ; simp at hρ; obtain ⟨rfl, rfl⟩ := hρ
      exact .inr ⟨h2, h3, h4⟩
  exact {
    len := by simp [ρ', hml, hs.len, hs1.len]
    old := hs1.old
    obs := fun x ob' hS => by
      rcases mergeS_get hS with ⟨k, ob1, rfl, h2, rfl⟩ | ⟨h1, h2, h3⟩
      · obtain ⟨b1, sz1, h4, h5⟩ := hs1.obs k ob1 h2
        exact ⟨b1, sz1, hfw k b1 sz1 h4, mpOb_ok mpF h5 rfl⟩
      · obtain ⟨b1, sz1, h4, h5, cs, h6, h7, h8⟩ := hs.obs x ob' h3
        refine ⟨b1, sz1, hold x _ h4, h5, cs, ?_, h7, fun i hi => (h8 i hi).tr tr⟩
        rw [hx.block b1 (hs.lt x b1 sz1 h4) (hout x ob' b1 sz1 h3 h2 h4)]
        exact h6
    lt := fun o b sz ho => by
      simp only [ρ'] at ho
      rw [List.getElem?_append] at ho
      split at ho
      · exact Nat.lt_of_lt_of_le (hs.lt o b sz ho) hx.size
      · rw [List.getElem?_drop] at ho
        exact hs1.lt _ b sz ho
    apart := fun x b sz ob' hS hρ => by
      rcases cas x ob' b sz hS hρ with ⟨k, ob1, rfl, h2, _, h3⟩ | ⟨h1, h2, h3⟩
      · exact hs1.apart k b sz ob1 h2 h3
      · intro hI
        rcases hx.inew b hI with h4 | h4 | ⟨o, sz', h4⟩
        · exact hs.apart x b sz ob' h2 h3 h4
        · have := hs.lt x b sz h3; omega
        · exact hout x ob' b sz h2 h1 h3 o sz' h4
    inj := fun x x' b sz sz' ob1 ob2 hS hS' hρ hρ' => by
      have mixed : ∀ (k : Nat) (obk : Ob) (x : Nat) (obx : Ob) (sz sz' : Nat), S1[k]? = some (some obk) → ρ1[k]? = some (some (b, sz)) → x ∉ os → S[x]? = some (some obx) → ρ[x]? = some (some (b, sz')) → False := fun k obk x obx sz sz' _ g2 g3 g4 g5 => by
        rcases hx.rnew k b sz g2 with ⟨o', sz'', g6⟩ | g6
        · exact hout x obx b sz' g4 g3 g5 o' sz'' g6
        · have := hs.lt x b sz' g5; omega
      rcases cas x ob1 b sz hS hρ with ⟨k, o1, rfl, h2, _, h3⟩ | ⟨h1, h2, h3⟩ <;> rcases cas x' ob2 b sz' hS' hρ' with ⟨k', o2, rfl, g2, _, g3⟩ | ⟨g1, g2, g3⟩
      · rw [hs1.inj k k' b sz sz' o1 o2 h2 g2 h3 g3]
      · exact (mixed k o1 x' ob2 sz sz' h2 h3 g1 g2 g3).elim
      · exact (mixed k' o2 x ob1 sz' sz g2 g3 h1 h2 h3).elim
      · exact hs.inj x x' b sz sz' ob1 ob2 h2 g2 h3 g3 }

end Go.V
