/- A part of the proofs about laws of the page tree (see the text that bears the law): a small language of steps, its rules, and what the functions of the program return. -/
import Derived.Test.YtjbihdcdamchnaaPM
set_option linter.all false
set_option linter.unusedVariables false
set_option linter.unusedSimpArgs false
namespace Go.V
section bd
variable {k0 : Nat} {L : List (Nat × D)} {S : Store} {R : Env → Store → Prop}
theorem env_dup (t : Nat) (a b : D) (L : List (Nat × D)) : env ((t, a) :: (t, b) :: L) = env ((t, a) :: L) := by
  funext i
  rw [env_cons, env_cons, env_cons]
  split <;> simp_all
theorem Bd.sub0 (t : Nat) {o off cap : Nat} (ht : env L t = .sub o off 0 cap) (h : R (env ((t, .pv (.sl [])) :: L)) S) : Bd k0 (env L) S R := fun ρ I w a hs he _ => by
  have g := he t
  rw [ht, rd_sub] at g
  obtain ⟨b, sz, cs, E', h1, h2, h3, h4, h5, h6⟩ := g
  refine ⟨_, S, ρ, I, h, hs, fun i => ?_, Ext.refl _ _ _ _⟩
  rw [env_cons]
  split
  · rename_i e
    subst e
    rw [h2]
    exact (rd_pv rfl).2 (.sl0 _ _ h4)
  · exact he i
/-- a part of an own slice, seen as a value -/
theorem Bd.subP (t : Nat) {o n cap : Nat} {ob : Ob} {ps : List PV} (ht : env L t = .sub o 0 n cap) (hS : S[o]? = some (some ob)) (hn : n ≤ ob.xs.length) (hps : toPVs (ob.xs.take n) = some ps)
    (h : R (env ((t, .pv (.sl ps)) :: L)) (S.set o none ++ [none])) : Bd k0 (env L) S R := by
  have ho : o < S.length := (List.getElem?_eq_some_iff.1 hS).1
  by_cases h0 : n = 0
  · subst h0
    simp [toPVs] at hps
    subst hps
    refine Bd.then (Bd.sub0 t (R := fun E S' => E = env ((t, .pv (.sl [])) :: L) ∧ S' = S) ht ⟨rfl, rfl⟩) ?_
    rintro E2 S2 ⟨hE, hS2⟩
    rw [hE, hS2]; clear hE hS2 E2 S2
    refine Bd.then (Bd.drop o (R := fun E S' => E = env ((t, .pv (.sl [])) :: L) ∧ S' = S.set o none) ⟨rfl, rfl⟩) ?_
    rintro E2 S2 ⟨hE, hS2⟩
    rw [hE, hS2]; clear hE hS2 E2 S2
    exact Bd.pad h
  · refine Bd.then (Bd.shut t (R := fun E S' => E = env ((t, .own o n) :: L) ∧ S' = S) ht ⟨rfl, rfl⟩) ?_
    rintro E2 S2 ⟨hE, hS2⟩
    rw [hE, hS2]; clear hE hS2 E2 S2
    refine Bd.then (Bd.cut o n (R := fun E S' => E = env ((t, .own o n) :: L) ∧ S' = S.set o (some { ob with xs := ob.xs.take n })) hS ⟨rfl, rfl⟩) ?_
    rintro E2 S2 ⟨hE, hS2⟩
    rw [hE, hS2]; clear hE hS2 E2 S2
    refine Bd.then (Bd.move t (o := o) (n := n) (ob := { ob with xs := ob.xs.take n }) (R := fun E S' => E = env ((t, .own S.length n) :: L) ∧ S' = S.set o none ++ [some { ob with xs := ob.xs.take n }]) (by rw [env_cons, if_pos rfl]) (by rw [List.getElem?_set]; simp [ho]) ⟨by rw [env_dup, List.length_set], by rw [List.set_set]⟩) ?_
    rintro E2 S2 ⟨hE, hS2⟩
    rw [hE, hS2]; clear hE hS2 E2 S2
    have hlen : (ob.xs.take n).length = n := by simp; omega
    refine Bd.pure t S.length ob.ty ob.sz (xs := ob.xs.take n) ?_ ?_ hps ?_
    · rw [env_cons, if_pos rfl]
      cases hx : ob.xs.take n with
      | nil => rw [hx] at hlen; simp at hlen; omega
      | cons a r => rw [hx] at hlen; simp at hlen; simp [ownD]; omega
    · rw [List.getElem?_append_right (by simp)]
      cases hx : ob.xs.take n with
      | nil => rw [hx] at hlen; simp at hlen; omega
      | cons a r => simp [obD]
    · rw [env_dup]
      simpa using h
end bd
/-- a function that takes a slice of one's own and gives something pure -/
def DelS (P : Program) (f : FuncId) (ty sz : Nat) (xs : List D) (args : List PV) (out : PV) : Prop :=
  CallS P f (.own 0 xs.length :: args.map .pv) [some ⟨ty, sz, xs⟩] (fun d S => d = .pv out ∧ S = [none, none])
theorem mpOb_pvs {m : D → D} {ty sz : Nat} {xs : List D} (h : ∀ x ∈ xs, mpS m x = x) : mpOb m ⟨ty, sz, xs⟩ = ⟨ty, sz, xs⟩ := by
  simp only [mpOb]
  congr 1
  rw [List.map_congr_left h]
  simp
section q
variable {P : Program} {sf : SM} {r : RT} {L : List (Nat × D)} {S : Store} {K : Env → Store → Prop} {t : Nat}
theorem q_del {f : FuncId} {ty sz : Nat} {args' : List Opd} {args : List PV} {o : Nat} {xs : List D} {out : PV} (hm : cOK sf = true) (hc : DelS P f ty sz xs args out) (hne : xs ≠ []) (hfl : ∀ (m : D → D), ∀ x ∈ xs, mpS m x = x) (ha : args'.map (ev (env L)) = ownD o xs :: args.map .pv) (hS : S[o]? = some (obD ty sz xs))
    (hs : sOK sf (S.set o none ++ [none])) (h : RG P sf r (env ((t, .pv out) :: L)) (S.set o none ++ [none]) K) : RG P sf (.op ⟨some t, none, .call f args'⟩ r) (env L) S K := by
  have ho : o < S.length := (List.getElem?_eq_some_iff.1 hS).1
  rw [obD_ne hne] at hS
  rw [ownD_ne hne] at ha
  refine q_call hm ?_
  rw [ha]
  refine CallS.frame (c1 := fun d S => d = .pv out ∧ S = [none, none]) [o] (by simp) (by simpa using ⟨_, hS⟩) ?_ ?_
  · have e1 : subS [o] S = [some ⟨ty, sz, xs⟩] := by
      simp [subS, List.getD_eq_getElem?_getD, hS, mpOb_pvs (hfl _)]
    have e2 : (D.own o xs.length :: args.map D.pv).map (mpD (inv [o])) = .own 0 xs.length :: args.map .pv := by
      simp only [List.map_cons, List.map_map]
      rw [show mpD (inv [o]) (D.own o xs.length) = .own 0 xs.length by simp [mpD, mpS, mp1, mp0, inv, posOf_single]]
      exact congrArg (D.own 0 xs.length :: ·) (List.map_congr_left fun x _ => mpD_pv _ _)
    rw [e1, e2]
    exact hc
  · rintro d S1 ⟨rfl, rfl⟩
    rw [mergeS_one ho]
    exact ⟨by simpa using hs, by simpa [mpD_pv] using h⟩
end q
theorem dI_mp (xs : List Int) : ∀ (m : D → D), ∀ x ∈ dI xs, mpS m x = x := fun m x hx => by
  obtain ⟨a, _, rfl⟩ := List.mem_map.1 hx; rfl
theorem dP_mp (xs : List (Int × Int)) : ∀ (m : D → D), ∀ x ∈ dP xs, mpS m x = x := fun m x hx => by
  obtain ⟨a, _, rfl⟩ := List.mem_map.1 hx; rfl
theorem ne_map {α β : Type} {f : α → β} {xs : List α} (h : 0 < xs.length) : xs.map f ≠ [] := by
  cases xs with
  | nil => simp at h
  | cons a r => simp
theorem take_splice {w z : List D} {m : Nat} (h : m ≤ w.length) : (splice w m z).take m = w.take m := by
  unfold splice
  rw [List.append_assoc, List.take_append, List.length_take, Nat.min_eq_left h, Nat.sub_self, List.take_zero, List.append_nil, List.take_take, Nat.min_self]
theorem del_some {α : Type} {f : α → D} {xs : List α} {i j : Nat} (z : List D) (hi : i ≤ j) (hj : j ≤ xs.length) :
    (splice (splice (xs.map f) i ((xs.drop j).map f)) (i + (xs.length - j)) z).take (i + (xs.length - j)) = (xs.take i ++ xs.drop j).map f := by
  rw [take_splice (by rw [splice_len (by simp; omega)]; simp; omega)]
  unfold splice
  rw [List.take_append_of_le_length (by simp; omega), List.take_of_length_le (by simp; omega)]
  simp [List.map_append, List.map_take]
theorem del_none {α : Type} {f : α → D} {xs : List α} {i j : Nat} (z : List D) (hi : i ≤ j) (hj : j ≤ xs.length) (hd : (xs.drop j).map f = []) :
    (splice (xs.map f) i z).take i = (xs.take i ++ xs.drop j).map f := by
  rw [take_splice (by simp; omega), List.map_append, hd]
  simp [List.map_take]
theorem drop_elems {α : Type} {f : α → D} {xs : List α} {o j n' ty sz : Nat} {S : Store} (c : Nat) (hS : S[o]? = some (some ⟨ty, sz, xs.map f⟩)) (hj : j + n' = xs.length) : elemsOf S sz (.sub o j n' c) = some ((xs.drop j).map f) := by
  simp only [elemsOf]
  rw [hS]
  dsimp only
  rw [if_pos ⟨rfl, by simp; omega⟩, List.take_of_length_le (by simp; omega), List.map_drop]
theorem splice_le {w z : List D} {p n : Nat} (h : n ≤ w.length) (hp : p ≤ w.length) : n ≤ (splice w p z).length := by
  rw [splice_len hp]; omega
theorem splice_nil (w : List D) (p : Nat) : splice w p [] = w := by
  unfold splice
  simp
/-- append where there is room -/
theorem q_app_in {P : Program} {sf : SM} {r : RT} {L : List (Nat × D)} {S : Store} {K : Env → Store → Prop} {t : Nat} {ty sz bytes m : Nat} {x y : Opd} {ys : List D} {o off n cap : Nat} {ob : Ob} (hx : ev (env L) x = .sub o off n cap) (hy : elemsOf S sz (ev (env L) y) = some ys) (hc : ys.all cellOK = true) (hS : S[o]? = some (some ob)) (hz : ob.sz = sz) (hl : off + n ≤ ob.xs.length)
    (hm : ys.length = m) (hcap : n + m ≤ cap) (hs : sOK sf (S.set o (some { ob with xs := splice ob.xs (off + n) ys })))
    (h : RG P sf r (env ((t, .sub o off (n + m) cap) :: L)) (S.set o (some { ob with xs := splice ob.xs (off + n) ys })) K) : RG P sf (.op ⟨some t, none, .app ty sz bytes x y⟩ r) (env L) S K := by
  subst hm
  refine q_app_s hx hy hc hS hz hl rfl rfl (fun h0 => ?_) (fun _ _ => ⟨hs, h⟩) (fun _ h2 => by omega)
  subst h0
  have e : S.set o (some { ob with xs := splice ob.xs (off + n) [] }) = S := by
    rw [splice_nil]
    have ho := List.getElem?_eq_some_iff.1 hS
    obtain ⟨ho1, ho2⟩ := ho
    have : (some { ob with xs := ob.xs } : Option Ob) = S[o] := by rw [ho2]
    rw [this, List.set_getElem_self]
  rw [e] at hs h
  exact ⟨hs, h⟩
theorem q_sub_to {P : Program} {sf : SM} {r : RT} {L : List (Nat × D)} {S : Store} {K : Env → Store → Prop} {t : Nat} {x y : Opd} {k : IntKind} {a b : Int} (c : Int) (hx : ev (env L) x = .pv (.int k a)) (hy : ev (env L) y = .pv (.int k b)) (e : a - b = c) (hr : inR k c) (h : RG P sf r (env ((t, .pv (.int k c)) :: L)) S K) :
    RG P sf (.op ⟨some t, none, .bin .sub x y⟩ r) (env L) S K := q_sub hx hy (e ▸ hr) (e ▸ h)
end Go.V
