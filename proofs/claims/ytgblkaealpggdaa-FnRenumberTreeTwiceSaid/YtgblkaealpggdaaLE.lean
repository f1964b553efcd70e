/- A part of the proofs about laws of the page tree (see the text that bears the law): a small language of steps, its rules, and what the functions of the program return. -/
import Derived.Test.YtgblkaealpggdaaLD
set_option linter.all false
set_option linter.unusedVariables false
set_option linter.unusedSimpArgs false
namespace Go.V
/-! keyed lists that rise: they are known by what is in them -/
section keyed
variable {α : Type} {f : α → Int}
def upF (f : α → Int) (xs : List α) (k : Int) : Nat := upTo (xs.map f) k
theorem take_up {k : Int} : ∀ {xs : List α}, xs.Pairwise (fun a b => f a < f b) → xs.take (upTo (xs.map f) k) = xs.filter fun x => decide (f x ≤ k)
  | [], _ => by simp
  | x :: xs, h => by
    rw [List.pairwise_cons] at h
    rw [List.map_cons]
    by_cases hx : f x ≤ k
    · rw [upTo_cons_le hx, List.take_succ_cons, take_up h.2, List.filter_cons, if_pos (by simpa using hx)]
    · rw [upTo_cons_gt (by omega), List.filter_cons, if_neg (by simpa using hx), List.take_zero]
      symm
      rw [List.filter_eq_nil_iff]
      intro y hy
      have := h.1 y hy
      simp; omega
theorem drop_up {k : Int} : ∀ {xs : List α}, xs.Pairwise (fun a b => f a < f b) → xs.drop (upTo (xs.map f) k) = xs.filter fun x => decide (k < f x)
  | [], _ => by simp
  | x :: xs, h => by
    rw [List.pairwise_cons] at h
    rw [List.map_cons]
    by_cases hx : f x ≤ k
    · rw [upTo_cons_le hx, List.drop_succ_cons, drop_up h.2, List.filter_cons, if_neg (by simpa using hx)]
    · rw [upTo_cons_gt (by omega), List.filter_cons, if_pos (by simp; omega), List.drop_zero]
      congr 1
      symm
      rw [List.filter_eq_self]
      intro y hy
      have := h.1 y hy
      simp; omega
end keyed
theorem pw_map {α : Type} {f : α → Int} {xs : List α} : xs.Pairwise (fun a b => f a < f b) ↔ (xs.map f).Pairwise (· < ·) := by rw [List.pairwise_map]
/-! a further key -/
def insK (xs : List Int) (k : Int) : List Int := xs.take (upTo xs (k - 1)) ++ [k] ++ xs.drop (upTo xs (k - 1))
def okIns (xs : List Int) (k : Int) : Bool := goodKeys xs && (decide (0 ≤ k) && decide (k ≤ 99)) && !xs.contains k
end Go.V

namespace Go.V
/-! rows: put and drop -/
theorem goodR_pw {xs : List (Int × Int)} (h : goodR xs = true) : xs.Pairwise fun a b => a.1 < b.1 :=
  pw_map.2 (goodKeys_iff.1 (goodR_keys h)).1
theorem row_key {xs : List (Int × Int)} (h : goodR xs = true) {x : Int × Int} (hx : x ∈ xs) : 0 ≤ x.1 ∧ x.1 ≤ 99 :=
  (goodKeys_iff.1 (goodR_keys h)).2 x.1 (List.mem_map_of_mem hx)
def dropR (xs : List (Int × Int)) (k : Int) : List (Int × Int) := xs.take (atR xs k) ++ xs.drop (atR xs k + 1)
theorem there_iff {xs : List (Int × Int)} {k : Int} (h : goodR xs = true) : thereR xs k = true ↔ ∃ x ∈ xs, x.1 = k := by
  rw [← there_contains (goodR_keys h), List.contains_iff_mem, List.mem_map]
theorem row_take {xs : List (Int × Int)} {k : Int} (h : goodR xs = true) : xs.take (atR xs k) = xs.filter fun x => decide (x.1 < k) := by
  rw [atR, take_up (f := Prod.fst) (goodR_pw h)]
  congr 1; funext x; simp; omega
theorem row_drop {xs : List (Int × Int)} {k : Int} (h : goodR xs = true) : xs.drop (if thereR xs k then atR xs k + 1 else atR xs k) = xs.filter fun x => decide (k < x.1) := by
  have hp := goodR_pw h
  have e := drop_up (f := Prod.fst) (k := k - 1) hp
  rw [show upTo (xs.map Prod.fst) (k - 1) = atR xs k from rfl] at e
  by_cases ht : thereR xs k = true
  · rw [if_pos ht]
    obtain ⟨h1, h2⟩ := thereR_lt ht
    have e2 : xs.drop (atR xs k) = nth xs (atR xs k) :: xs.drop (atR xs k + 1) := by
      rw [nth_eq h1]; exact List.drop_eq_getElem_cons h1
    have e3 : (xs.drop (atR xs k)).filter (fun x => decide (k < x.1)) = xs.filter fun x => decide (k < x.1) := by
      rw [e, List.filter_filter]
      congr 1; funext x
      by_cases hx : k < x.1 <;> simp [hx] <;> omega
    rw [← e3, e2, List.filter_cons, if_neg (by simp [h2])]
    symm
    rw [List.filter_eq_self]
    intro y hy
    have hs : (nth xs (atR xs k) :: xs.drop (atR xs k + 1)).Pairwise fun a b => a.1 < b.1 := by rw [← e2]; exact hp.sublist (List.drop_sublist _ _)
    have := (List.pairwise_cons.1 hs).1 y hy
    rw [h2] at this
    simpa using this
  · rw [if_neg ht, e]
    refine List.filter_congr fun x hx => ?_
    have : x.1 ≠ k := fun e => ht ((there_iff h).2 ⟨x, hx, e⟩)
    have h3 : (k - 1 < x.1) ↔ (k < x.1) := by omega
    simp [h3]
theorem putR_filter {xs : List (Int × Int)} {x : Int × Int} (h : goodR xs = true) : putR xs x = (xs.filter fun y => decide (y.1 < x.1)) ++ [x] ++ xs.filter fun y => decide (x.1 < y.1) := by
  rw [putR, row_take h, row_drop h]
theorem putR_mem {xs : List (Int × Int)} {x y : Int × Int} (h : goodR xs = true) : y ∈ putR xs x ↔ y = x ∨ (y ∈ xs ∧ y.1 ≠ x.1) := by
  rw [putR_filter h]
  simp only [List.mem_append, List.mem_filter, List.mem_singleton, decide_eq_true_eq]
  constructor
  · rintro ((⟨h1, h2⟩ | h1) | ⟨h1, h2⟩)
    · exact .inr ⟨h1, by omega⟩
    · exact .inl h1
    · exact .inr ⟨h1, by omega⟩
  · rintro (h1 | ⟨h1, h2⟩)
    · exact .inl (.inr h1)
    · by_cases h3 : y.1 < x.1
      · exact .inl (.inl ⟨h1, h3⟩)
      · exact .inr ⟨h1, by omega⟩
def goodX (x : Int × Int) : Bool := (decide (0 ≤ x.1) && decide (x.1 ≤ 99)) && (decide (-1000 ≤ x.2) && decide (x.2 ≤ 1000))
def okPut (xs : List (Int × Int)) (x : Int × Int) : Bool := goodR xs && goodX x && decide ((putR xs x).length ≤ 24)
theorem goodX_iff {x : Int × Int} : goodX x = true ↔ (0 ≤ x.1 ∧ x.1 ≤ 99) ∧ -1000 ≤ x.2 ∧ x.2 ≤ 1000 := by simp [goodX]
theorem goodR_one {x : Int × Int} : goodR [x] = goodX x := by
  rw [Bool.eq_iff_iff, goodR_iff, goodX_iff, goodKeys_iff]; simp [keysR]; omega
theorem okPut_iff {xs : List (Int × Int)} {x : Int × Int} : okPut xs x = true ↔ goodR xs = true ∧ goodX x = true ∧ (putR xs x).length ≤ 24 := by simp [okPut, and_assoc]
theorem putR_pw {xs : List (Int × Int)} {x : Int × Int} (h : goodR xs = true) : (putR xs x).Pairwise fun a b => a.1 < b.1 := by
  rw [putR_filter h, List.append_assoc, List.pairwise_append]
  refine ⟨(goodR_pw h).filter _, ?_, fun a ha b hb => ?_⟩
  · rw [List.singleton_append, List.pairwise_cons]
    refine ⟨fun b hb => ?_, (goodR_pw h).filter _⟩
    simpa using (List.mem_filter.1 hb).2
  · have h3 : a.1 < x.1 := by simpa using (List.mem_filter.1 ha).2
    rcases List.mem_append.1 hb with hb | hb
    · simp at hb; subst hb; exact h3
    · have h4 : x.1 < b.1 := by simpa using (List.mem_filter.1 hb).2
      omega
theorem good_of {xs : List (Int × Int)} (hp : xs.Pairwise fun a b => a.1 < b.1) (hl : xs.length ≤ 24) (hb : ∀ x ∈ xs, goodX x = true) : goodR xs = true := by
  rw [goodR_iff, goodKeys_iff]
  refine ⟨fun x hx => (goodX_iff.1 (hb x hx)).2, hl, pw_map.1 hp, fun k hk => ?_⟩
  obtain ⟨x, hx, rfl⟩ := List.mem_map.1 hk
  exact (goodX_iff.1 (hb x hx)).1
theorem row_X {xs : List (Int × Int)} (h : goodR xs = true) {x : Int × Int} (hx : x ∈ xs) : goodX x = true :=
  goodX_iff.2 ⟨row_key h hx, (goodR_iff.1 h).1 x hx⟩
theorem putR_good {xs : List (Int × Int)} {x : Int × Int} (h : okPut xs x = true) : goodR (putR xs x) = true := by
  obtain ⟨h1, h2, h3⟩ := okPut_iff.1 h
  refine good_of (putR_pw h1) h3 fun y hy => ?_
  rcases (putR_mem h1).1 hy with e | e
  · rw [e]; exact h2
  · exact row_X h1 e.1
def okDrop (xs : List (Int × Int)) (k : Int) : Bool := goodR xs && thereR xs k
theorem okDrop_iff {xs : List (Int × Int)} {k : Int} : okDrop xs k = true ↔ goodR xs = true ∧ thereR xs k = true := by simp [okDrop]
theorem dropR_sub {xs : List (Int × Int)} {k : Int} : (dropR xs k).Sublist xs := cut_sub xs (Nat.le_succ _)
end Go.V

namespace Go.V
/-! insides: joined and split -/
abbrev bothA (a : List Int) (k : Int) (b : List Int) : List Int := a ++ [k] ++ b
def okJI (a c : List Int) (k : Int) (b d : List Int) : Bool := goodInner a c && goodInner b d && goodInner (bothA a k b) (c ++ d)
def joinI (a c : List Int) (k : Int) (b d : List Int) : PV := if okJI a c k b d then .tup [innP (bothA a k b) (c ++ d), .bool true] else .tup [innP [] [], .bool false]
abbrev halfI (ks : List Int) : Nat := ks.length / 2
def okSI (ks cs : List Int) : Bool := goodInner ks cs && decide (3 ≤ ks.length)
def splI (ks cs : List Int) : PV := if okSI ks cs then .tup [innP (ks.take (halfI ks)) (cs.take (halfI ks + 1)), i64 (nth ks (halfI ks)), innP (ks.drop (halfI ks + 1)) (cs.drop (halfI ks + 1)), .bool true] else .tup [innP [] [], i64 0, innP [] [], .bool false]
end Go.V

namespace Go.V
section q
variable {P : Program} {sf : SM} {r : RT} {L : List (Nat × D)} {S : Store} {K : Env → Store → Prop} {t : Nat}
theorem q_build2 {z0 z1 : D} {x y : Opd} {d e : D} (hx : ev (env L) x = d) (hd : cellsD d = some [d]) (hy : ev (env L) y = e) (he : cellsD e = some [e]) (h : RG P sf r (env ((t, .agg [d, e]) :: L)) S K) :
    RG P sf (.op ⟨some t, none, .build [z0, z1] [(0, (1, x)), (1, (1, y))]⟩ r) (env L) S K := by
  refine q_build ?_ h
  subst hx hy
  simp only [fillD, hd, he]
  simp [setAt]
end q
end Go.V
namespace Go.V
def junk (sz : Nat) : D := .agg (List.replicate sz .any)
theorem rdc_junk {ρ : Rho} {I : Nat → Prop} {w : World} {vs : List Value} {sz : Nat} (h : vs.length = sz) : RDc ρ I w vs (junk sz) :=
  ⟨by simpa using h, fun i _ h2 => by simp only [List.getElem_replicate]; trivial⟩
theorem Bd.ext {k0 : Nat} {L : List (Nat × D)} {S : Store} {R : Env → Store → Prop} (t : Nat) {o n cap : Nat} {ob : Ob} (m : Nat) (ht : env L t = .sub o 0 n cap) (hS : S[o]? = some (some ob)) (hm : ob.xs.length + m ≤ cap)
    (h : R (env L) (S.set o (some { ob with xs := ob.xs ++ List.replicate m (junk ob.sz) }))) : Bd k0 (env L) S R := fun ρ I w a hs he _ => by
  refine ⟨_, _, ρ, I, h, ?_, he, Ext.refl _ _ _ _⟩
  have g := he t
  rw [ht, rd_sub] at g
  obtain ⟨b, sz, cs, E', h1, h2, h3, h4, h5, h6⟩ := g
  obtain ⟨b', sz', g1, g2, cs', g3, g4, g5⟩ := hs.obs o ob hS
  rw [h1] at g1
  simp at g1
  obtain ⟨rfl, rfl⟩ := g1
  rw [h5] at g3
  simp at g3
  obtain ⟨rfl, rfl⟩ := g3
  have ho : o < S.length := (List.getElem?_eq_some_iff.1 hS).1
  have hget : ∀ (q : Nat) (ob2 : Ob), (S.set o (some { ob with xs := ob.xs ++ List.replicate m (junk ob.sz) }))[q]? = some (some ob2) → (q = o ∧ ob2 = { ob with xs := ob.xs ++ List.replicate m (junk ob.sz) }) ∨ S[q]? = some (some ob2) := fun q ob2 hq => by
    rw [List.getElem?_set] at hq
    split at hq
    · rename_i e; subst e
      first | rw [if_pos ho] at hq | skip
      simp only [Option.some.injEq] at hq
      exact .inl ⟨rfl, hq.symm⟩
    · exact .inr hq
  have hcap : (ob.xs.length + m) * sz ≤ cs.size := Nat.le_trans (Nat.mul_le_mul_right _ (by omega)) h6
  constructor
  · constructor
    · exact hs.old
    · intro q ob2 hq
      rcases hget q ob2 hq with ⟨rfl, rfl⟩ | hq
      · refine ⟨b, sz, h1, g2, cs, h5, by simpa using hcap, fun i hi => ?_⟩
        simp only [List.getElem_append]
        split
        · exact g5 i ‹_›
        · simp only [List.getElem_replicate]
          refine rdc_junk ?_
          simp at hi
          have : (i + 1) * sz ≤ (ob.xs.length + m) * sz := Nat.mul_le_mul_right _ (by omega)
          rw [Nat.add_mul] at this
          simp; omega
      · exact hs.obs q ob2 hq
  · rw [List.length_set]; exact hs.len
  · exact hs.lt
  · intro q b2 sz2 ob2 hq hr
    rcases hget q ob2 hq with ⟨rfl, rfl⟩ | hq
    · exact hs.apart q b2 sz2 ob hS hr
    · exact hs.apart q b2 sz2 ob2 hq hr
  · intro q q' b2 sz2 sz2' ob2 ob2' hq hq' hr hr'
    rcases hget q ob2 hq with ⟨e1, _⟩ | hq1 <;> rcases hget q' ob2' hq' with ⟨e2, _⟩ | hq2
    · rw [e1, e2]
    · exact hs.inj q q' b2 sz2 sz2' ob ob2' (by rw [e1]; exact hS) hq2 hr hr'
    · exact hs.inj q q' b2 sz2 sz2' ob2 ob hq1 (by rw [e2]; exact hS) hr hr'
    · exact hs.inj q q' b2 sz2 sz2' ob2 ob2' hq1 hq2 hr hr'
end Go.V
namespace Go.V
end Go.V
namespace Go.V
end Go.V
namespace Go.V
end Go.V
namespace Go.V
def InsE (P : Program) (f : FuncId) (args : List PV) (out : PV) : Prop := CallS P f (.nils :: args.map .pv) [] (fun d S => d = .pv out ∧ S = [none])
section q
variable {P : Program} {sf : SM} {r : RT} {L : List (Nat × D)} {S : Store} {K : Env → Store → Prop} {t : Nat}
end q
end Go.V

namespace Go.V
section q
variable {P : Program} {sf : SM} {r : RT} {L : List (Nat × D)} {S : Store} {K : Env → Store → Prop} {t : Nat}
abbrev prD (v : Int × Int) : D := .agg [.pv (i64 v.1), .pv (i64 v.2)]
end q
/-! a further kid -/
abbrev addA (ks : List Int) (m : Nat) (k : Int) : List Int := ks.take m ++ [k] ++ ks.drop m
abbrev addB (cs : List Int) (m : Nat) (c : Int) : List Int := cs.take (m + 1) ++ [c] ++ cs.drop (m + 1)
def okAdd (ks cs : List Int) (m : Nat) (k c : Int) : Bool := goodInner ks cs && decide (m < cs.length) && goodInner (addA ks m k) (addB cs m c)
def addR (ks cs : List Int) (m : Nat) (k c : Int) : PV := if okAdd ks cs m k c then .tup [innP (addA ks m k) (addB cs m c), .bool true] else .tup [innP [] [], .bool false]
theorem nth_mid {α : Type} [Inhabited α] {a b : List α} {x : α} {n : Nat} (h : n = a.length) : nth (a ++ [x] ++ b) n = x := by
  subst h
  rw [nth_eq (by simp)]
  simp
theorem nth_pre {α : Type} [Inhabited α] {a b : List α} {n : Nat} (h : n < a.length) : nth (a ++ b) n = nth a n := by
  rw [nth_eq (by simp; omega), nth_eq h, List.getElem_append_left h]
theorem nth_suf {α : Type} [Inhabited α] {a b : List α} {n : Nat} (h : a.length ≤ n) (h2 : n < a.length + b.length) : nth (a ++ b) n = nth b (n - a.length) := by
  rw [nth_eq (by simp; omega), nth_eq (by omega), List.getElem_append_right h]
end Go.V
namespace Go.V
def insT (xs : List Int) (k : Int) : List Int := if okIns xs k then insK xs k else []
end Go.V
namespace Go.V
def putT (xs : List (Int × Int)) (x : Int × Int) : List (Int × Int) := if okPut xs x then putR xs x else []
end Go.V
namespace Go.V
def wout (xs : List (Int × Int)) (k : Int) : List (Int × Int) := xs.filter fun x => decide (x.1 ≠ k)
end Go.V
