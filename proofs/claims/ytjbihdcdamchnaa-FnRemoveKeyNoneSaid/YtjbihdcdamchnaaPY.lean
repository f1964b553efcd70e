/- A part of the proofs about laws of the page tree (see the text that bears the law): a small language of steps, its rules, and what the functions of the program return. -/
import Derived.Test.YtjbihdcdamchnaaPX
set_option linter.all false
set_option linter.unusedVariables false
set_option linter.unusedSimpArgs false
namespace Go.V
section q
variable {P : Program} {sf : SM} {r : RT} {L : List (Nat × D)} {S : Store} {K : Env → Store → Prop} {t : Nat}
theorem q_build2 {z0 z1 : D} {x y : Opd} {d e : D} (hx : ev (env L) x = d) (hd : cellsD d = some [d]) (hy : ev (env L) y = e) (he : cellsD e = some [e]) (h : RG P sf r (env ((t, .agg [d, e]) :: L)) S K) :
    RG P sf (.op ⟨some t, none, .build [z0, z1] [(0, (1, x)), (1, (1, y))]⟩ r) (env L) S K := by
  refine q_build ?_ h
  subst hx hy
  simp only [fillD, hd, he]
  simp [setAt]
end q
end Go.V
namespace Go.V
/-- what lies beyond a slice's length, up to its capacity: unknown -/
def junk (sz : Nat) : D := .agg (List.replicate sz .any)
theorem rdc_junk {ρ : Rho} {I : Nat → Prop} {w : World} {vs : List Value} {sz : Nat} (h : vs.length = sz) : RDc ρ I w vs (junk sz) :=
  ⟨by simpa using h, fun i _ h2 => by simp only [List.getElem_replicate]; trivial⟩
theorem Bd.ext {k0 : Nat} {L : List (Nat × D)} {S : Store} {R : Env → Store → Prop} (t : Nat) {o n cap : Nat} {ob : Ob} (m : Nat) (ht : env L t = .sub o 0 n cap) (hS : S[o]? = some (some ob)) (hm : ob.xs.length + m ≤ cap)
    (h : R (env L) (S.set o (some { ob with xs := ob.xs ++ List.replicate m (junk ob.sz) }))) : Bd k0 (env L) S R := fun ρ I w a hs he _ => by
  refine ⟨_, _, ρ, I, h, ?_, he, Ext.refl _ _ _ _⟩
  have g := he t
  rw [ht, rd_sub] at g
  obtain ⟨b, sz, cs, E', h1, h2, h3, h4, h5, h6⟩ := g
  obtain ⟨b', sz', g1, g2, cs', g3, g4, g5⟩ := hs.obs o ob hS
  rw [h1] at g1
  simp at g1
  obtain ⟨rfl, rfl⟩ := g1
  rw [h5] at g3
  simp at g3
  obtain ⟨rfl, rfl⟩ := g3
  have ho : o < S.length := (List.getElem?_eq_some_iff.1 hS).1
  have hget : ∀ (q : Nat) (ob2 : Ob), (S.set o (some { ob with xs := ob.xs ++ List.replicate m (junk ob.sz) }))[q]? = some (some ob2) → (q = o ∧ ob2 = { ob with xs := ob.xs ++ List.replicate m (junk ob.sz) }) ∨ S[q]? = some (some ob2) := fun q ob2 hq => by
    rw [List.getElem?_set] at hq
    split at hq
    · rename_i e; subst e
      first | rw [if_pos ho] at hq | skip
      simp only [Option.some.injEq] at hq
      exact .inl ⟨rfl, hq.symm⟩
    · exact .inr hq
  have hcap : (ob.xs.length + m) * sz ≤ cs.size := Nat.le_trans (Nat.mul_le_mul_right _ (by omega)) h6
  constructor
  · constructor
    · exact hs.old
    · intro q ob2 hq
      rcases hget q ob2 hq with ⟨rfl, rfl⟩ | hq
      · refine ⟨b, sz, h1, g2, cs, h5, by simpa using hcap, fun i hi => ?_⟩
        simp only [List.getElem_append]
        split
        · exact g5 i ‹_›
        · simp only [List.getElem_replicate]
          refine rdc_junk ?_
          simp at hi
          have : (i + 1) * sz ≤ (ob.xs.length + m) * sz := Nat.mul_le_mul_right _ (by omega)
          rw [Nat.add_mul] at this
          simp; omega
      · exact hs.obs q ob2 hq
  · rw [List.length_set]; exact hs.len
  · exact hs.lt
  · intro q b2 sz2 ob2 hq hr
    rcases hget q ob2 hq with ⟨rfl, rfl⟩ | hq
    · exact hs.apart q b2 sz2 ob hS hr
    · exact hs.apart q b2 sz2 ob2 hq hr
  · intro q q' b2 sz2 sz2' ob2 ob2' hq hq' hr hr'
    rcases hget q ob2 hq with ⟨e1, _⟩ | hq1 <;> rcases hget q' ob2' hq' with ⟨e2, _⟩ | hq2
    · rw [e1, e2]
    · exact hs.inj q q' b2 sz2 sz2' ob ob2' (by rw [e1]; exact hS) hq2 hr hr'
    · exact hs.inj q q' b2 sz2 sz2' ob2 ob hq1 (by rw [e2]; exact hS) hr hr'
    · exact hs.inj q q' b2 sz2 sz2' ob2 ob2' hq1 hq2 hr hr'
end Go.V
namespace Go.V
theorem Bd.subPB {k0 : Nat} {L : List (Nat × D)} {S : Store} {R : Env → Store → Prop} (t : Nat) {o n cap : Nat} {ob : Ob} {ps : List PV} (ht : env L t = .sub o 0 n cap) (hS : S[o]? = some (some ob)) (hn : n ≤ ob.xs.length) (hps : toPVs (ob.xs.take n) = some ps)
    (h : Bd k0 (env ((t, .pv (.sl ps)) :: L)) (S.set o none ++ [none]) R) : Bd k0 (env L) S R :=
  Bd.then (Bd.subP t (R := fun E S' => E = env ((t, .pv (.sl ps)) :: L) ∧ S' = S.set o none ++ [none]) ht hS hn hps ⟨rfl, rfl⟩) (by rintro E2 S2 ⟨hE, hS2⟩; rw [hE, hS2]; exact h)
theorem Bd.dropB {k0 : Nat} {E : Env} {S : Store} {R : Env → Store → Prop} (o : Nat) (h : Bd k0 E (S.set o none) R) : Bd k0 E S R :=
  Bd.then (Bd.drop o (R := fun E' S' => E' = E ∧ S' = S.set o none) ⟨rfl, rfl⟩) (by rintro E2 S2 ⟨hE, hS2⟩; rw [hE, hS2]; exact h)
theorem all_take {α : Type} {p : α → Bool} {l : List α} (h : l.all p = true) (n : Nat) : (l.take n).all p = true := by
  rw [List.all_eq_true] at h ⊢
  exact fun x hx => h x (List.mem_of_mem_take hx)
theorem elems_sub {S : Store} {o off n c : Nat} {ob : Ob} (hS : S[o]? = some (some ob)) (h : off + n ≤ ob.xs.length) : elemsOf S ob.sz (.sub o off n c) = some ((ob.xs.drop off).take n) := by
  simp [elemsOf, hS, h]
theorem splice_cat {a b c d : List D} {p : Nat} (hp : p = a.length) (h : c.length = b.length) : splice (a ++ b ++ d) p c = a ++ c ++ d := by
  subst hp
  simp [splice, h]
/-- what slices.Insert comes to, in new memory -/
theorem ins_new {A V Z : List D} {i : Nat} (hi : i ≤ A.length) (hz : Z.length = A.length + V.length - i) :
    splice (splice (A.take i ++ Z) i V) (i + V.length) (A.drop i) = A.take i ++ V ++ A.drop i := by
  have e1 : A.take i ++ Z = A.take i ++ Z.take V.length ++ Z.drop V.length := by rw [List.append_assoc, List.take_append_drop]
  rw [e1, splice_cat (by simp; omega) (by simp; omega)]
  have := splice_cat (a := A.take i ++ V) (b := Z.drop V.length) (c := A.drop i) (d := []) (p := i + V.length) (by simp; omega) (by simp; omega)
  rw [List.append_nil, List.append_nil] at this
  exact this
/-- .. and in place -/
theorem ins_old {A V J : List D} {i : Nat} (hi : i ≤ A.length) (hj : J.length = V.length) :
    splice (splice (A ++ J) (i + V.length) (A.drop i)) i V = A.take i ++ V ++ A.drop i := by
  have e1 : A ++ J = (A ++ J).take (i + V.length) ++ (A ++ J).drop (i + V.length) ++ [] := by rw [List.append_nil, List.take_append_drop]
  rw [e1, splice_cat (by simp; omega) (by simp; omega), List.append_nil]
  have e2 : (A ++ J).take (i + V.length) = A.take i ++ ((A ++ J).drop i).take V.length := by
    rw [List.take_add, List.take_append_of_le_length hi]
  rw [e2, splice_cat (by simp; omega) (by simp; omega)]
end Go.V
namespace Go.V
theorem all_drop {α : Type} {p : α → Bool} {l : List α} (h : l.all p = true) (n : Nat) : (l.drop n).all p = true := by
  rw [List.all_eq_true] at h ⊢
  exact fun x hx => h x (List.mem_of_mem_drop hx)
end Go.V
namespace Go.V
theorem splice_end {A V : List D} {p : Nat} (hp : p = A.length) : splice A p V = A ++ V := by
  subst hp
  simp [splice]
end Go.V
namespace Go.V
/-- a function that takes nil and gives something pure -/
def InsE (P : Program) (f : FuncId) (args : List PV) (out : PV) : Prop := CallS P f (.nils :: args.map .pv) [] (fun d S => d = .pv out ∧ S = [none])
section q
variable {P : Program} {sf : SM} {r : RT} {L : List (Nat × D)} {S : Store} {K : Env → Store → Prop} {t : Nat}
theorem q_ins {f : FuncId} {ty sz : Nat} {args' : List Opd} {args : List PV} {o : Nat} {xs : List D} {out : PV} (hm : cOK sf = true) (h0 : xs = [] → InsE P f args out) (hc : xs ≠ [] → DelS P f ty sz xs args out) (hfl : ∀ (m : D → D), ∀ x ∈ xs, mpS m x = x) (ha : args'.map (ev (env L)) = ownD o xs :: args.map .pv) (hS : S[o]? = some (obD ty sz xs))
    (hs : sOK sf (S.set o none ++ [none])) (h : RG P sf r (env ((t, .pv out) :: L)) (S.set o none ++ [none]) K) : RG P sf (.op ⟨some t, none, .call f args'⟩ r) (env L) S K := by
  by_cases hne : xs = []
  · have hS0 := hS
    subst hne
    have e0 : S.set o none = S := by
      have hlt : o < S.length := (List.getElem?_eq_some_iff.1 hS0).1
      have : S[o] = none := by
        have := (List.getElem?_eq_some_iff.1 hS0).2
        exact this
      rw [← this, List.set_getElem_self]
    rw [e0] at hs h
    refine q_call hm ?_
    rw [ha]
    refine CallS.frame (c1 := fun d S => d = .pv out ∧ S = [none]) [] (by simp) (by simp) ?_ ?_
    · have e2 : (ownD o [] :: args.map D.pv).map (mpD (inv [])) = .nils :: args.map .pv := by
        simp only [List.map_cons, List.map_map]
        exact congrArg (D.nils :: ·) (List.map_congr_left fun x _ => mpD_pv _ _)
      rw [e2]
      exact h0 rfl
    · rintro d S1 ⟨rfl, rfl⟩
      rw [mergeS_nil]
      exact ⟨by simpa using hs, by simpa [mpD_pv] using h⟩
  · exact q_del hm (hc hne) hne hfl ha hS hs h
end q
end Go.V
