/- A part of the proofs about laws of the page tree (see the text that bears the law): a small language of steps, its rules, and what the functions of the program return. -/
import Derived.Test.YtjbihdcdamchnaaVO
set_option linter.all false
set_option linter.unusedVariables false
set_option linter.unusedSimpArgs false
namespace Go.V
/-! more steps in between -/
section bd
variable {k0 : Nat} {L : List (Nat × D)} {S : Store} {R : Env → Store → Prop}
/-- the capacity gets a name -/
theorem Bd.open (t : Nat) {o n : Nat} (ht : env L t = .own o n) (h : ∀ cap, n ≤ cap → cap ≤ maxLen → R (env ((t, .sub o 0 n cap) :: L)) S) : Bd k0 (env L) S R := fun ρ I w a hs he _ => by
  have g := he t
  rw [ht, rd_own] at g
  obtain ⟨b, sz, cap, cs, E', h1, h2, h3, h4, h5, h6⟩ := g
  refine ⟨_, S, ρ, I, h cap h3 h4, hs, fun i => ?_, Ext.refl _ _ _ _⟩
  rw [env_cons]
  split
  · rename_i e
    subst e
    exact rd_sub.2 ⟨b, sz, cs, E', h1, by rw [Nat.zero_mul]; exact h2, h3, h4, h5, by rw [Nat.zero_add]; exact h6⟩
  · exact he i
theorem Bd.shut (t : Nat) {o n cap : Nat} (ht : env L t = .sub o 0 n cap) (h : R (env ((t, .own o n) :: L)) S) : Bd k0 (env L) S R := fun ρ I w a hs he _ => by
  have g := he t
  rw [ht, rd_sub] at g
  obtain ⟨b, sz, cs, E', h1, h2, h3, h4, h5, h6⟩ := g
  refine ⟨_, S, ρ, I, h, hs, fun i => ?_, Ext.refl _ _ _ _⟩
  rw [env_cons]
  split
  · rename_i e
    subst e
    exact rd_own.2 ⟨b, sz, cap, cs, E', h1, by rw [Nat.zero_mul] at h2; exact h2, h3, h4, h5, by rw [Nat.zero_add] at h6; exact h6⟩
  · exact he i
/-- a slice moves to a new number -/
theorem Bd.move (t : Nat) {o n : Nat} {ob : Ob} (ht : env L t = .own o n) (hS : S[o]? = some (some ob)) (h : R (env ((t, .own S.length n) :: L)) (S.set o none ++ [some ob])) : Bd k0 (env L) S R := fun ρ I w a hs he _ => by
  obtain ⟨b, sz, h1, h2, cs, h3, h4, h5⟩ := hs.obs o ob hS
  have hlen := hs.len
  have hget : (ρ ++ [some (b, sz)])[S.length]? = some (some (b, sz)) := by rw [List.getElem?_append_right (by omega)]; simp [hlen]
  have hold : ∀ (o' b' sz' : Nat), ρ[o']? = some (some (b', sz')) → (ρ ++ [some (b, sz)])[o']? = some (some (b', sz')) := fun o' b' sz' ho' => by
    rw [List.getElem?_append_left (List.getElem?_eq_some_iff.1 ho').1]; exact ho'
  have t0 : Tr ρ I w (ρ ++ [some (b, sz)]) I w := ⟨fun b hb => ⟨hb, rfl⟩, fun o' b' sz' ho' => ⟨hold o' b' sz' ho', fun c F hc => ⟨c, hc, rfl⟩⟩⟩
  refine ⟨_, _, ρ ++ [some (b, sz)], I, h, app_st hs hS t0 (hs.apart o b sz ob hS h1) (hs.lt o b sz h1) (fun o' sz' ob2 hne hS' h' => hne (hs.inj o' o b sz' sz ob2 ob hS' hS h' h1)) h2 h3 (Nat.le_refl _) h4 (fun _ _ _ _ _ _ _ => rfl) h5, fun i => ?_, ?_⟩
  · rw [env_cons]
    split
    · rename_i e
      subst e
      have g := he i
      rw [ht, rd_own] at g
      obtain ⟨b', sz', cap, cs', E', g1, g2⟩ := g
      rw [h1] at g1
      simp at g1
      obtain ⟨rfl, rfl⟩ := g1
      exact rd_own.2 ⟨b, sz, cap, cs', E', hget, g2⟩
    · exact RD.tr t0 (he i)
  · refine t0.ext rfl rfl rfl (Nat.le_refl _) (by simp) (fun _ _ _ => rfl) (fun _ h => .inl h) fun o' b' sz' ho' => ?_
    rw [List.getElem?_append] at ho'
    split at ho'
    · exact .inl ⟨o', sz', ho'⟩
    · simp only [List.getElem?_singleton] at ho'
      split at ho' <;> simp at ho'
      exact .inl ⟨o, sz, by rw [← ho'.1]; exact h1⟩
theorem Bd.st {E : Env} (S' : Store) (hsub : ∀ (o : Nat) (ob : Ob), S'[o]? = some (some ob) → ∃ ob0, S[o]? = some (some ob0) ∧ ob.ty = ob0.ty ∧ ob.sz = ob0.sz ∧ ob.xs.length ≤ ob0.xs.length ∧ ∀ i (h : i < ob.xs.length) (h' : i < ob0.xs.length), ob.xs[i] = ob0.xs[i]) (hl : S'.length = S.length)
    (h : R E S') : Bd k0 E S R := fun ρ I w a hs he _ => by
  refine ⟨E, S', ρ, I, h, { old := hs.old, obs := ?_, len := by rw [hs.len, hl], lt := hs.lt, apart := ?_, inj := ?_ }, he, Ext.refl _ _ _ _⟩
  · intro o ob ho
    obtain ⟨ob0, g1, g2, g3, g4, g5⟩ := hsub o ob ho
    obtain ⟨b, sz, h1, h2, cs, h3, h4, h5⟩ := hs.obs o ob0 g1
    refine ⟨b, sz, h1, by rw [h2, g3], cs, by rw [g2]; exact h3, Nat.le_trans (Nat.mul_le_mul_right _ g4) h4, fun i hi => ?_⟩
    rw [g5 i hi (by omega)]
    exact h5 i (by omega)
  · intro o b sz ob ho hρ
    obtain ⟨ob0, g1, _⟩ := hsub o ob ho
    exact hs.apart o b sz ob0 g1 hρ
  · intro o o' b sz sz' ob ob' ho ho' hρ hρ'
    obtain ⟨ob0, g1, _⟩ := hsub o ob ho
    obtain ⟨ob0', g1', _⟩ := hsub o' ob' ho'
    exact hs.inj o o' b sz sz' ob0 ob0' g1 g1' hρ hρ'
/-- an object is forgotten -/
theorem Bd.drop {E : Env} (o : Nat) (h : R E (S.set o none)) : Bd k0 E S R := by
  refine Bd.st _ (fun q ob hq => ?_) (by simp) h
  rw [List.getElem?_set] at hq
  split at hq
  · split at hq <;> simp at hq
  · exact ⟨ob, hq, rfl, rfl, Nat.le_refl _, fun _ _ _ => rfl⟩
/-- the elements from m on are forgotten -/
theorem Bd.cut {E : Env} (o m : Nat) {ob : Ob} (hS : S[o]? = some (some ob)) (h : R E (S.set o (some { ob with xs := ob.xs.take m }))) : Bd k0 E S R := by
  refine Bd.st _ (fun q ob' hq => ?_) (by simp) h
  rw [List.getElem?_set] at hq
  split at hq
  · rename_i e
    subst e
    rw [if_pos (List.getElem?_eq_some_iff.1 hS).1] at hq
    simp at hq
    subst hq
    exact ⟨ob, hS, rfl, rfl, by simp; omega, fun i h h' => by simp⟩
  · exact ⟨ob', hq, rfl, rfl, Nat.le_refl _, fun _ _ _ => rfl⟩
end bd

section q
variable {P : Program} {sf : SM} {r : RT} {L : List (Nat × D)} {S : Store} {K : Env → Store → Prop} {t : Nat}
theorem q_len_x {x : Opd} {o off n cap : Nat} (hx : ev (env L) x = .sub o off n cap) (h : RG P sf r (env ((t, .pv (.int .i64 n)) :: L)) S K) : RG P sf (.op ⟨some t, none, .len x⟩ r) (env L) S K := by
  refine qF rfl ?_; simp only [stepF, hx]; exact h
theorem q_cap {x : Opd} {o off n cap : Nat} (hx : ev (env L) x = .sub o off n cap) (h : RG P sf r (env ((t, .pv (.int .i64 cap)) :: L)) S K) : RG P sf (.op ⟨some t, none, .cap x⟩ r) (env L) S K := by
  refine qF rfl ?_; simp only [stepF, hx]; exact h
/-- a head of an own slice -/
theorem q_slc_o {sz : Nat} {x : Opd} {lo hi : Option Opd} {o n m : Nat} {b : Int} (hx : ev (env L) x = .own o n) (hl : optI (env L) lo 0 = some 0) (hh : optI (env L) hi n = some b) (hr : b = m ∧ m ≤ n)
    (h : RG P sf r (env ((t, .own o m) :: L)) S K) : RG P sf (.op ⟨some t, none, .slc sz x lo hi⟩ r) (env L) S K := by
  obtain ⟨rfl, hr⟩ := hr
  refine qF rfl ?_
  simp only [stepF, hx, asSl, hl, hh]
  exact ⟨⟨trivial, by omega, by omega⟩, by rw [Int.toNat_natCast]; exact h⟩
/-- a part of an own slice whose capacity is known -/
theorem q_slc_s {sz : Nat} {x : Opd} {lo hi : Option Opd} {o off n cap : Nat} (off' n' cap' : Nat) {a b : Int} {ob : Ob} (hx : ev (env L) x = .sub o off n cap) (hl : optI (env L) lo 0 = some a) (hh : optI (env L) hi n = some b)
    (hS : (fs sf S)[o]? = some (some ob)) (hz : ob.sz = sz) (hr : 0 ≤ a ∧ a ≤ b ∧ b ≤ cap) (he : (off' : Int) = off + a ∧ (n' : Int) = b - a ∧ (cap' : Int) = cap - a)
    (h0 : (cap : Int) = a → RG P sf r (env ((t, .nils) :: L)) S K) (h1 : (cap : Int) ≠ a → RG P sf r (env ((t, .sub o off' n' cap') :: L)) S K) : RG P sf (.op ⟨some t, none, .slc sz x lo hi⟩ r) (env L) S K := by
  refine qF rfl ?_
  simp only [stepF, hx, asSl, hl, hh]
  refine ⟨⟨hr.1, hr.2.1, hr.2.2, ob, hS, hz⟩, ?_⟩
  split
  · exact h0 (by omega)
  · rw [show off + a.toNat = off' by omega, show (b - a).toNat = n' by omega, show cap - a.toNat = cap' by omega]
    exact h1 (by omega)
theorem q_slc3 {sz : Nat} {x : Opd} {lo : Option Opd} {hi mx : Opd} {o off n cap : Nat} {a b c : Int} (hx : ev (env L) x = .sub o off n cap) (hl : optI (env L) lo 0 = some a) (hh : optI (env L) (some hi) 0 = some b) (hm : optI (env L) (some mx) 0 = some c)
    (hr : 0 ≤ a ∧ a ≤ b ∧ b ≤ c ∧ c ≤ cap) (h : RG P sf r (env ((t, .any) :: L)) S K) : RG P sf (.op ⟨some t, none, .slc3 sz x lo hi mx⟩ r) (env L) S K := by
  refine qF rfl ?_
  simp only [stepF, hx, hl, hh, hm]
  exact ⟨hr, h⟩
theorem q_isnil_m {ng : Bool} {x : Opd} {xs : List PV} (hx : ev (env L) x = .pv (.sl xs)) (hs : sOK sf S) (h0 : RG P sf r (env ((t, .pv (.bool ng)) :: L)) S K) (h1 : xs = [] → RG P sf r (env ((t, .pv (.bool !ng)) :: L)) S K) : RG P sf (.op ⟨some t, none, .isnil ng x⟩ r) (env L) S K := by
  refine qX (by cases sf <;> rfl) ?_
  simp only [stepS, hx]
  exact ⟨⟨hs, h0⟩, fun e => ⟨hs, h1 e⟩⟩
theorem q_isnil_o {ng : Bool} {x : Opd} {o n : Nat} (hx : ev (env L) x = .own o n) (hs : sOK sf S) (h0 : RG P sf r (env ((t, .pv (.bool ng)) :: L)) S K) : RG P sf (.op ⟨some t, none, .isnil ng x⟩ r) (env L) S K := by
  refine qX (by cases sf <;> rfl) ?_
  simp only [stepS, hx]
  exact ⟨hs, h0⟩
theorem q_app_s {ty sz bytes : Nat} {x y : Opd} {ys zs ws : List D} {o off n cap : Nat} {ob : Ob} (hx : ev (env L) x = .sub o off n cap) (hy : elemsOf S sz (ev (env L) y) = some ys) (hc : ys.all cellOK = true) (hS : S[o]? = some (some ob)) (hz : ob.sz = sz) (hl : off + n ≤ ob.xs.length)
    (e1 : splice ob.xs (off + n) ys = zs) (e2 : (ob.xs.drop off).take n ++ ys = ws) (h0 : ys = [] → sOK sf S ∧ RG P sf r (env ((t, .sub o off n cap) :: L)) S K)
    (h1 : ys ≠ [] → n + ys.length ≤ cap → sOK sf (S.set o (some { ob with xs := zs })) ∧ RG P sf r (env ((t, .sub o off (n + ys.length) cap) :: L)) (S.set o (some { ob with xs := zs })) K)
    (h2 : ys ≠ [] → cap < n + ys.length → ((n + ys.length) * bytes ≤ 140737488355328 ∧ n + ys.length ≤ maxLen) ∧ sOK sf (S ++ [some ⟨ty, sz, ws⟩]) ∧ RG P sf r (env ((t, .own S.length (n + ys.length)) :: L)) (S ++ [some ⟨ty, sz, ws⟩]) K) : RG P sf (.op ⟨some t, none, .app ty sz bytes x y⟩ r) (env L) S K := by
  subst e1 e2
  refine qX (by cases sf <;> rfl) ?_
  simp only [stepS, hx, hy]
  exact ⟨hc, .inr (.inr ⟨ob, hS, hz, hl, h0, h1, fun g1 g2 => ⟨(h2 g1 g2).1.1, (h2 g1 g2).1.2, (h2 g1 g2).2⟩⟩)⟩
theorem q_appz_n {ty sz bytes : Nat} {z : D} {x n : Opd} {k : IntKind} {m : Nat} (hx : ev (env L) x = .nils) (hn : ev (env L) n = .pv (.int k m)) (hr : 0 < m ∧ m * bytes ≤ 140737488355328 ∧ m ≤ maxLen)
    (h : sOK sf (S ++ [some ⟨ty, sz, List.replicate m z⟩]) ∧ RG P sf r (env ((t, .own S.length m) :: L)) (S ++ [some ⟨ty, sz, List.replicate m z⟩]) K) : RG P sf (.op ⟨some t, none, .appz ty sz bytes z x n⟩ r) (env L) S K := by
  refine qX (by cases sf <;> rfl) ?_
  simp only [stepS, hx, hn, Int.toNat_natCast]
  exact ⟨by omega, hr.2.1, hr.2.2, h⟩
theorem q_appz_s {ty sz bytes : Nat} {z : D} {x n : Opd} {k : IntKind} {m p : Nat} {a : Int} {o off cap : Nat} {ob : Ob} {ws : List D} (hx : ev (env L) x = .sub o off p cap) (hn : ev (env L) n = .pv (.int k a)) (ha : a = m) (hS : S[o]? = some (some ob)) (hz : ob.sz = sz) (hl : off + p ≤ ob.xs.length)
    (e : (ob.xs.drop off).take p ++ List.replicate m z = ws) (hr : 0 < m ∧ cap < p + m ∧ (p + m) * bytes ≤ 140737488355328 ∧ p + m ≤ maxLen)
    (h : sOK sf (S ++ [some ⟨ty, sz, ws⟩]) ∧ RG P sf r (env ((t, .own S.length (p + m)) :: L)) (S ++ [some ⟨ty, sz, ws⟩]) K) : RG P sf (.op ⟨some t, none, .appz ty sz bytes z x n⟩ r) (env L) S K := by
  subst e ha
  refine qX (by cases sf <;> rfl) ?_
  simp only [stepS, hx, hn, Int.toNat_natCast]
  exact ⟨by omega, ob, hS, hz, hl, hr.2.1, hr.2.2.1, hr.2.2.2, h⟩
variable {tt : Option Nat}
theorem q_copy_n {sz : Nat} {x y : Opd} {ys : List D} (hx : ev (env L) x = .nils) (hy : elemsOf S sz (ev (env L) y) = some ys) (h : sOK sf S ∧ RG P sf r (env ((t, .any) :: L)) S K) : RG P sf (.op ⟨some t, none, .copy sz x y⟩ r) (env L) S K := by
  refine qX (by cases sf <;> rfl) ?_
  simp only [stepS, hx, hy]
  exact h
theorem q_copy_o {sz : Nat} {x y : Opd} {ys zs : List D} {o n : Nat} {ob : Ob} (hx : ev (env L) x = .own o n) (hy : elemsOf S sz (ev (env L) y) = some ys) (hc : (ys.take n).all cellOK = true) (hS : S[o]? = some (some ob)) (hz : ob.sz = sz) (hl : n ≤ ob.xs.length) (e : splice ob.xs 0 (ys.take n) = zs)
    (h : sOK sf (S.set o (some { ob with xs := zs })) ∧ RG P sf r (env ((t, .any) :: L)) (S.set o (some { ob with xs := zs })) K) : RG P sf (.op ⟨some t, none, .copy sz x y⟩ r) (env L) S K := by
  subst e
  refine qX (by cases sf <;> rfl) ?_
  simp only [stepS, hx, hy]
  exact ⟨hc, ob, hS, hz, hl, h⟩
theorem q_copy_s {sz : Nat} {x y : Opd} {ys zs : List D} {o off n cap : Nat} {ob : Ob} (hx : ev (env L) x = .sub o off n cap) (hy : elemsOf S sz (ev (env L) y) = some ys) (hc : (ys.take n).all cellOK = true) (hS : S[o]? = some (some ob)) (hz : ob.sz = sz) (hl : off + n ≤ ob.xs.length) (e : splice ob.xs off (ys.take n) = zs)
    (h : sOK sf (S.set o (some { ob with xs := zs })) ∧ RG P sf r (env ((t, .any) :: L)) (S.set o (some { ob with xs := zs })) K) : RG P sf (.op ⟨some t, none, .copy sz x y⟩ r) (env L) S K := by
  subst e
  refine qX (by cases sf <;> rfl) ?_
  simp only [stepS, hx, hy]
  exact ⟨hc, ob, hS, hz, hl, h⟩
theorem q_clear_n {sz : Nat} {z : D} {x : Opd} (hx : ev (env L) x = .nils) (h : RG P sf r (env L) S K) (hs : sOK sf S) : RG P sf (.op ⟨none, none, .clear sz z x⟩ r) (env L) S K := by
  refine rX (by cases sf <;> rfl) ?_
  simp only [stepS, hx]
  exact ⟨hs, h⟩
theorem q_clear_s {sz : Nat} {z : D} {x : Opd} {o off n cap : Nat} {ob : Ob} {zs : List D} (hx : ev (env L) x = .sub o off n cap) (hS : S[o]? = some (some ob)) (hz : ob.sz = sz) (hl : off + n ≤ ob.xs.length) (hn : n ≠ 0) (e : splice ob.xs off (List.replicate n z) = zs)
    (h : sOK sf (S.set o (some { ob with xs := zs })) ∧ RG P sf r (env L) (S.set o (some { ob with xs := zs })) K) : RG P sf (.op ⟨none, none, .clear sz z x⟩ r) (env L) S K := by
  subst e
  refine rX (by cases sf <;> rfl) ?_
  simp only [stepS, hx]
  exact ⟨ob, hS, hz, hl, fun e => absurd e hn, fun _ => h⟩
theorem q_ovl_n {f : FuncId} {x y : Opd} {xs : List PV} (hf : OvlOK P f) (hx : ev (env L) x = .pv (.sl xs)) (hy : ev (env L) y = .nils) (h : sOK sf S ∧ RG P sf r (env ((t, .pv (.bool false)) :: L)) S K) : RG P sf (.op ⟨some t, none, .ovl f x y⟩ r) (env L) S K := by
  refine qX (by cases sf <;> rfl) ?_
  simp only [stepS, hx, hy]
  exact ⟨hf, h⟩
theorem q_ovl_s {f : FuncId} {x y : Opd} {xs : List PV} {o off n cap : Nat} {ob : Ob} (hf : OvlOK P f) (hx : ev (env L) x = .pv (.sl xs)) (hy : ev (env L) y = .sub o off n cap) (hS : S[o]? = some (some ob)) (hp : 0 < ob.sz) (ha : (xs.all fun x => decide (0 < x.nc)) = true)
    (h : sOK sf S ∧ RG P sf r (env ((t, .pv (.bool false)) :: L)) S K) : RG P sf (.op ⟨some t, none, .ovl f x y⟩ r) (env L) S K := by
  refine qX (by cases sf <;> rfl) ?_
  simp only [stepS, hx, hy]
  exact ⟨hf, ⟨ob, hS, hp⟩, ha, h⟩
theorem q_slc_m {α : Type} {sz : Nat} {x : Opd} {lo hi : Option Opd} {f : α → PV} {xs : List α} (l m : Nat) {a b : Int} (hx : ev (env L) x = .pv (.sl (xs.map f))) (hl : optI (env L) lo 0 = some a) (hh : optI (env L) hi ((xs.map f).length : Nat) = some b)
    (hr : a = l ∧ b = m ∧ l ≤ m ∧ m ≤ xs.length) (hsz : ∀ a, (f a).nc = sz) (h : RG P sf r (env ((t, .pv (.sl (((xs.take m).drop l).map f))) :: L)) S K) : RG P sf (.op ⟨some t, none, .slc sz x lo hi⟩ r) (env L) S K := by
  obtain ⟨rfl, rfl, h1, h2⟩ := hr
  refine q_slc (xs := xs.map f) (by rw [hx]; rfl) hl hh ⟨by omega, by omega, by simp; omega⟩ (fun x hx => by obtain ⟨y, _, rfl⟩ := List.mem_map.1 hx; exact hsz y) ?_
  rw [hx]
  simp only [slR, Int.toNat_natCast, ← List.map_take, ← List.map_drop]
  exact h
theorem q_cap_n {x : Opd} (hx : ev (env L) x = .nils) (h : RG P sf r (env ((t, .pv (.int .i64 0)) :: L)) S K) : RG P sf (.op ⟨some t, none, .cap x⟩ r) (env L) S K := by
  refine qF rfl ?_; simp only [stepF, hx]; exact h
theorem q_slc_nil {sz : Nat} {x : Opd} {lo hi : Option Opd} (hx : ev (env L) x = .nils) (hl : optI (env L) lo 0 = some 0) (hh : optI (env L) hi 0 = some 0) (h : RG P sf r (env ((t, .nils) :: L)) S K) : RG P sf (.op ⟨some t, none, .slc sz x lo hi⟩ r) (env L) S K := by
  refine q_slc (xs := []) (a := 0) (b := 0) (by rw [hx]; rfl) hl hh ⟨by omega, by omega, by simp⟩ (by simp) ?_
  rw [hx]
  exact h
theorem q_beq {ng : Bool} {x y : Opd} {a b : Bool} (hx : ev (env L) x = .pv (.bool a)) (hy : ev (env L) y = .pv (.bool b)) (h : RG P sf r (env ((t, .pv (.bool (if ng then !(a == b) else a == b))) :: L)) S K) : RG P sf (.op ⟨some t, none, .beq ng x y⟩ r) (env L) S K := by
  refine qF rfl ?_; simp only [stepF, hx, hy]; exact h
theorem q_peq {ng : Bool} {x y : Opd} {k l k' l' : IntKind} {a b a' b' : Int} (hx : cellsD (ev (env L) x) = some [.pv (.int k a), .pv (.int l b)]) (hy : cellsD (ev (env L) y) = some [.pv (.int k' a'), .pv (.int l' b')]) (hk : k = k' ∧ l = l')
    (h : RG P sf r (env ((t, .pv (.bool (if ng then !(decide (a = a') && decide (b = b')) else decide (a = a') && decide (b = b')))) :: L)) S K) : RG P sf (.op ⟨some t, none, .peq ng x y⟩ r) (env L) S K := by
  refine qF rfl ?_; simp only [stepF, hx, hy]; exact ⟨hk, h⟩
theorem q_part_a {off sz : Nat} {x : Opd} {cs ds : List D} (hx : ev (env L) x = .agg cs) (hl : off + sz ≤ cs.length) (hp : (cs.drop off).take sz = ds) (h : RG P sf r (env ((t, .agg ds) :: L)) S K) : RG P sf (.op ⟨some t, none, .part off sz true x⟩ r) (env L) S K := by
  subst hp
  refine qF rfl ?_; simp only [stepF, hx, fldD, if_true]; exact ⟨hl, h⟩
theorem Sub.app (S T : Store) : Sub S (S ++ T) := Sub.of_eq fun o ob h => by
  rw [List.getElem?_append_left (List.getElem?_eq_some_iff.1 h).1]; exact h
theorem Sub.trans {A B C : Store} (h : Sub A B) (k : Sub B C) : Sub A C := fun o ob g => by
  obtain ⟨ob1, a1, a2, a3, ys, a4⟩ := h o ob g
  obtain ⟨ob2, b1, b2, b3, zs, b4⟩ := k o ob1 a1
  exact ⟨ob2, b1, a2.trans b2, a3.trans b3, ys ++ zs, by rw [b4, a4, List.append_assoc]⟩
theorem Sub.set {A S : Store} (h : Sub A S) (o : Nat) (x : Option Ob) (ho : ∀ ob, A[o]? ≠ some (some ob)) : Sub A (S.set o x) := fun q ob g => by
  have hq : q ≠ o := fun e => ho ob (e ▸ g)
  rw [List.getElem?_set_ne (fun e => hq e.symm)]
  exact h q ob g
/-- append, whatever is empty -/
theorem q_app_z {ty sz bytes : Nat} {x y : Opd} {ys : List D} (hx : ev (env L) x = .nils) (hy : elemsOf S sz (ev (env L) y) = some ys) (hc : ys.all cellOK = true) (hb : ys.length * bytes ≤ 140737488355328 ∧ ys.length ≤ maxLen)
    (h : sOK sf (S ++ [obD ty sz ys]) ∧ RG P sf r (env ((t, ownD S.length ys) :: L)) (S ++ [obD ty sz ys]) K) : RG P sf (.op ⟨some t, none, .app ty sz bytes x y⟩ r) (env L) S K := by
  refine qX (by cases sf <;> rfl) ?_
  simp only [stepS, hy]
  exact ⟨hc, .inl ⟨hx, hb, h⟩⟩
theorem q_app_d {ty sz bytes : Nat} {x y : Opd} {xs ys : List D} {o : Nat} (hx : ev (env L) x = ownD o xs) (hy : elemsOf S sz (ev (env L) y) = some ys) (hc : ys.all cellOK = true) (hS : S[o]? = some (obD ty sz xs)) (hb : (xs.length + ys.length) * bytes ≤ 140737488355328 ∧ xs.length + ys.length ≤ maxLen)
    (h : sOK sf (S.set o none ++ [obD ty sz (xs ++ ys)]) ∧ RG P sf r (env ((t, ownD S.length (xs ++ ys)) :: L)) (S.set o none ++ [obD ty sz (xs ++ ys)]) K) : RG P sf (.op ⟨some t, none, .app ty sz bytes x y⟩ r) (env L) S K := by
  refine qX (by cases sf <;> rfl) ?_
  simp only [stepS, hy]
  exact ⟨hc, .inr (.inl ⟨o, xs, hx, hS, hb, h⟩)⟩
theorem q_len_d {x : Opd} {o : Nat} {xs : List D} (hx : ev (env L) x = ownD o xs) (h : RG P sf r (env ((t, .pv (.int .i64 xs.length)) :: L)) S K) : RG P sf (.op ⟨some t, none, .len x⟩ r) (env L) S K := by
  cases xs with
  | nil => exact q_len_n hx h
  | cons a r => exact q_len_o hx h
theorem q_idx_d {ty sz : Nat} {x i : Opd} {o : Nat} {xs : List D} {k : IntKind} {n : Int} (hx : ev (env L) x = ownD o xs) (hi : ev (env L) i = .pv (.int k n)) (h0 : 0 ≤ n) (h1 : n < xs.length) (hS : (fs sf S)[o]? = some (obD ty sz xs))
    (h : RG P sf r (env ((t, .ptr o n.toNat 0) :: L)) S K) : RG P sf (.op ⟨some t, none, .idx sz x i⟩ r) (env L) S K := by
  cases xs with
  | nil => simp at h1; omega
  | cons a r => exact q_idx_o (ob := ⟨ty, sz, a :: r⟩) hx hi h0 (by simpa using h1) hS rfl h
end q

section bd
variable {k0 : Nat} {L : List (Nat × D)} {S : Store} {R : Env → Store → Prop}
/-- an own slice becomes pure -/
theorem Bd.pure (t o : Nat) (ty sz : Nat) {xs : List D} {ps : List PV} (ht : env L t = ownD o xs) (hS : S[o]? = some (obD ty sz xs)) (hps : toPVs xs = some ps)
    (h : R (env ((t, .pv (.sl ps)) :: L)) (S.set o none)) : Bd k0 (env L) S R := fun ρ I w a hs he _ => by
  have hne : ∀ q (x : Option Ob), (S.set o none)[q]? = some x → (q ≠ o ∧ S[q]? = some x) ∨ x = none := fun q x hq => by
    rw [List.getElem?_set] at hq
    split at hq
    · split at hq <;> simp at hq
      exact .inr hq.symm
    · exact .inl ⟨fun e => by subst e; contradiction, hq⟩
  cases xs with
  | nil =>
    simp [toPVs] at hps; subst hps
    refine ⟨_, _, ρ, I, h, { old := hs.old, obs := ?_, len := by simp [hs.len], lt := hs.lt, apart := ?_, inj := ?_ }, fun i => ?_, Ext.refl _ _ _ _⟩
    · intro q ob hq
      rcases hne q _ hq with ⟨_, h2⟩ | h2
      · exact hs.obs q ob h2
      · cases h2
    · intro q b sz' ob hq hρ
      rcases hne q _ hq with ⟨_, h2⟩ | h2
      · exact hs.apart q b sz' ob h2 hρ
      · cases h2
    · intro q q' b sz1 sz2 ob ob' hq hq' hρ hρ'
      rcases hne q _ hq with ⟨_, h2⟩ | h2
      · rcases hne q' _ hq' with ⟨_, h3⟩ | h3
        · exact hs.inj q q' b sz1 sz2 ob ob' h2 h3 hρ hρ'
        · cases h3
      · cases h2
    · rw [env_cons]
      split
      · rename_i e
        subst e
        have g := he i
        rw [ht] at g
        obtain ⟨a', hv⟩ := rd_nils.1 g
        rw [hv]
        exact (rd_pv rfl).2 (.sl0 _ _ (by unfold maxLen; omega))
      · exact he i
  | cons x r =>
    have hS' : S[o]? = some (some ⟨ty, sz, x :: r⟩) := hS
    obtain ⟨b, sz0, h1, h2, cs, h3, h4, h5⟩ := hs.obs o _ hS'
    obtain ⟨hl, hel⟩ := toPVs_get hps
    let I' : Nat → Prop := fun y => I y ∨ y = b
    have hII : ∀ b, I b → I' b := fun _ h => .inl h
    have kp : Keeps ρ I w w := ⟨fun _ _ => rfl, fun _ _ _ _ cs E hc => ⟨cs, hc, rfl⟩⟩
    refine ⟨_, _, ρ, I', h, { old := ?_, obs := ?_, len := by simp [hs.len], lt := hs.lt, apart := ?_, inj := ?_ }, fun i => ?_, ?_⟩
    · rintro q (hq | rfl)
      · exact hs.old q hq
      · exact hs.lt o _ sz0 h1
    · intro q ob hq
      rcases hne q _ hq with ⟨_, g2⟩ | g2
      · obtain ⟨b', sz', k1, k2, cs', k3, k4, k5⟩ := hs.obs q ob g2
        exact ⟨b', sz', k1, k2, cs', k3, k4, fun i hi => RDc.mono hII kp (k5 i hi)⟩
      · cases g2
    · intro q b' sz' ob hq hρ
      rcases hne q _ hq with ⟨g1, g2⟩ | g2
      · rintro (hI | rfl)
        · exact hs.apart q b' sz' ob g2 hρ hI
        · exact g1 (hs.inj q o _ sz' sz0 ob _ g2 hS' hρ h1)
      · cases g2
    · intro q q' b' sz1 sz2 ob ob' hq hq' hρ hρ'
      rcases hne q _ hq with ⟨_, g2⟩ | g2
      · rcases hne q' _ hq' with ⟨_, g3⟩ | g3
        · exact hs.inj q q' b' sz1 sz2 ob ob' g2 g3 hρ hρ'
        · cases g3
      · cases g2
    · rw [env_cons]
      split
      · rename_i e
        subst e
        have g := he i
        rw [ht] at g
        obtain ⟨b', sz', cap, cs', E', k1, hv, k3, k4, k5, k6⟩ := rd_own.1 g
        rw [h1] at k1
        simp at k1
        obtain ⟨rfl, rfl⟩ := k1
        rw [hv]
        have hpl : r.length + 1 = ps.length := by simpa using hl.symm
        refine (rd_pv rfl).2 (.sl ps b 0 cap sz0 _ (fun i => (cs.toList.drop (i * sz0)).take sz0) hpl k3 k4 (.inr rfl) (fun i hi => ?_) (fun i hi => ?_) (fun i hi => ?_))
        · have : (i + 1) * sz0 ≤ (x :: r).length * sz0 := Nat.mul_le_mul_right _ (by simp; omega)
          rw [Nat.add_mul] at this
          have h4' : (x :: r).length * sz0 ≤ cs.size := h4
          simp only [List.length_take, List.length_drop, Array.length_toList]
          omega
        · intro j hj
          have : (i + 1) * sz0 ≤ (x :: r).length * sz0 := Nat.mul_le_mul_right _ (by simp; omega)
          rw [Nat.add_mul] at this
          have h4' : (x :: r).length * sz0 ≤ cs.size := h4
          have hj' : j < sz0 ∧ i * sz0 + j < cs.size := by simp at hj; omega
          simp only [World.cell?, h3, Option.isSome_none, Bool.false_eq_true, if_false, Nat.zero_add]
          rw [Array.getElem?_eq_getElem hj'.2]
          simp
        · have hx : i < (x :: r).length := by simp; omega
          exact (toPV_rdc (hel i hx hi) (h5 i hx)).mono (fun _ h => .inl h) fun _ _ => rfl
      · exact RD.mono hII kp (he i)
    · exact {
        os := rfl
        tape := rfl
        output := rfl
        size := Nat.le_refl _
        kept := Nat.min_le_right _ _
        block := fun _ _ _ => rfl
        im := fun _ h => ⟨.inl h, rfl⟩
        inew := fun q hq => hq.elim .inl fun e => .inr (.inr ⟨o, sz0, e ▸ h1⟩)
        rnew := fun o b sz ho => .inl ⟨o, sz, ho⟩
        fix := fun o b sz _ ho => ⟨ho, fun cs E hc => ⟨cs, hc, rfl⟩⟩ }
end bd

theorem ownD_len {o : Nat} : ∀ {xs ys : List D}, xs.length = ys.length → ownD o xs = ownD o ys
  | [], [], _ => rfl
  | _ :: r, _ :: r', h => by have : r.length = r'.length := by simpa using h
                             simp [ownD, this]
  | [], _ :: _, h => by simp at h
  | _ :: _, [], h => by simp at h
theorem Bd.pureB {k0 : Nat} {L : List (Nat × D)} {S : Store} {R : Env → Store → Prop} (t o : Nat) (ty sz : Nat) {xs : List D} {ps : List PV} (ht : env L t = ownD o xs) (hS : S[o]? = some (obD ty sz xs)) (hps : toPVs xs = some ps)
    (h : Bd k0 (env ((t, .pv (.sl ps)) :: L)) (S.set o none) R) : Bd k0 (env L) S R :=
  Bd.then (Bd.pure t o ty sz (R := fun E S' => E = env ((t, .pv (.sl ps)) :: L) ∧ S' = S.set o none) ht hS hps ⟨rfl, rfl⟩) (by rintro _ _ ⟨rfl, rfl⟩; exact h)
theorem Bd.renL {k0 : Nat} {E : Env} {S S' : Store} {R : Env → Store → Prop} (os : List Nat) (h0 : ∀ i, i < k0 → os[i]? = some i) (hnd : os.Nodup) (L : List (Nat × D)) (h1 : keepOK (fun t => mpD (inv os) (E t)) L) (hS : subS os S = S') (h : R (env L) S') : Bd k0 E S R := by
  refine Bd.ren os h0 hnd L ?_ (hS ▸ h)
  clear h hS
  induction L with
  | nil => intro p hp; cases hp
  | cons a L ih =>
    intro p hp
    rcases List.mem_cons.1 hp with rfl | hp
    · exact h1.1
    · exact ih h1.2 p hp
theorem isOne_own {o : Nat} {xs : List D} : isOne (ownD o xs) = true := by cases xs <;> rfl
theorem isCell_own {o : Nat} {xs : List D} : isCell (ownD o xs) = true := by cases xs <;> rfl
theorem isCell_sl {xs : List PV} : isCell (.pv (.sl xs)) = true := rfl
theorem isCell_int {k : IntKind} {n : Int} : isCell (.pv (.int k n)) = true := rfl
theorem isCell_nils : isCell .nils = true := rfl
theorem cellsD_own {o : Nat} {xs : List D} : cellsD (ownD o xs) = some [ownD o xs] := by cases xs <;> rfl
theorem posOf_own {os : List Nat} {o k : Nat} (h : posOf os o = some k) : ∀ {xs : List D}, mpD (inv os) (ownD o xs) = ownD k xs
  | [] => rfl
  | _ :: _ => by simp [ownD, mpD, mpS, mp1, mp0, inv, h]
theorem inv_own {os : List Nat} {o k : Nat} {xs : List D} (h : posOf os o = some k) : mpD (inv os) (ownD o xs) = ownD k xs := posOf_own h
theorem Bd.pad {k0 : Nat} {E : Env} {S : Store} {R : Env → Store → Prop} (h : R E (S ++ [none])) : Bd k0 E S R := fun ρ I w a hs he _ => by
  have hold : ∀ (o' b' sz' : Nat), ρ[o']? = some (some (b', sz')) → (ρ ++ [none])[o']? = some (some (b', sz')) := fun o' b' sz' ho' => by
    rw [List.getElem?_append_left (List.getElem?_eq_some_iff.1 ho').1]; exact ho'
  have t0 : Tr ρ I w (ρ ++ [none]) I w := ⟨fun b hb => ⟨hb, rfl⟩, fun o' b' sz' ho' => ⟨hold o' b' sz' ho', fun c F hc => ⟨c, hc, rfl⟩⟩⟩
  obtain ⟨ρ', I', h1, _, _⟩ := seen_pad (S := S) (d := .any) (S1 := S) ρ I w Go.undef (Nat.le_refl _) hs rd_any
  refine ⟨E, _, ρ ++ [none], I, h, ?_, he.tr t0, ?_⟩
  · have hback : ∀ (o' b' sz' : Nat), (ρ ++ [none])[o']? = some (some (b', sz')) → ρ[o']? = some (some (b', sz')) := fun o' b' sz' ho' => by
      rw [List.getElem?_append] at ho'
      split at ho'
      · exact ho'
      · simp only [List.getElem?_singleton] at ho'
        split at ho' <;> simp at ho'
    have hSb : ∀ (o' : Nat) (ob : Ob), (S ++ [none])[o']? = some (some ob) → S[o']? = some (some ob) := fun o' ob ho' => by
      rw [List.getElem?_append] at ho'
      split at ho'
      · exact ho'
      · simp only [List.getElem?_singleton] at ho'
        split at ho' <;> simp at ho'
    exact { len := by simp [hs.len], old := hs.old, obs := fun o' ob ho' => by
              obtain ⟨b, sz, h1, h2, cs, h3, h4, h5⟩ := hs.obs o' ob (hSb o' ob ho')
              exact ⟨b, sz, hold _ _ _ h1, h2, cs, h3, h4, fun i hi => (h5 i hi).tr t0⟩,
            lt := fun o b sz ho => hs.lt o b sz (hback o b sz ho), apart := fun o b sz ob hS ho => hs.apart o b sz ob (hSb o ob hS) (hback o b sz ho),
            inj := fun o o' b sz sz' ob ob' h1 h2 h3 h4 => hs.inj o o' b sz sz' ob ob' (hSb _ _ h1) (hSb _ _ h2) (hback _ _ _ h3) (hback _ _ _ h4) }
  · refine t0.ext rfl rfl rfl (Nat.le_refl _) (by simp) (fun _ _ _ => rfl) (fun _ h => .inl h) fun o' b' sz' ho' => ?_
    rw [List.getElem?_append] at ho'
    split at ho'
    · exact .inl ⟨o', sz', ho'⟩
    · simp only [List.getElem?_singleton] at ho'
      split at ho' <;> simp at ho'

/-- an own slice in a field becomes pure -/
theorem Bd.frzF {k0 : Nat} {E : Env} {S : Store} {R : Env → Store → Prop} (k o1 i j : Nat) (ty sz : Nat) {xs : List D} {ps : List PV} {ob : Ob} {cs : List D} (hk : k ≠ o1) (hS : S[k]? = some (obD ty sz xs)) (hps : toPVs xs = some ps) (hO : S[o1]? = some (some ob)) (hi : ob.xs[i]? = some (.agg cs)) (hj : cs[j]? = some (ownD k xs))
    (h : R E ((S.set k none).set o1 (some { ob with xs := ob.xs.set i (.agg (cs.set j (.pv (.sl ps)))) }))) : Bd k0 E S R := fun ρ I w a hs he _ => by
  -- the blocks that may be read from now on
  obtain ⟨I', hII, hI'old, hI'new, hrd⟩ : ∃ I' : Nat → Prop, (∀ b, I b → I' b) ∧ (∀ b, I' b → b < w.heap.size) ∧ (∀ b, I' b → I b ∨ ∃ sz0, ρ[k]? = some (some (b, sz0)) ∧ ∃ ob0, S[k]? = some (some ob0)) ∧
      ∀ v, R0 ρ I w v (ownD k xs) → RC I' w [v] (.sl ps) := by
    cases xs with
    | nil =>
      simp [toPVs] at hps; subst hps
      exact ⟨I, fun _ h => h, hs.old, fun _ h => .inl h, fun v hv => by obtain ⟨a', rfl⟩ := hv; exact .sl0 _ _ (by unfold maxLen; omega)⟩
    | cons x r =>
      have hS' : S[k]? = some (some ⟨ty, sz, x :: r⟩) := hS
      obtain ⟨b, sz0, h1, h2, cs0, h3, h4, h5⟩ := hs.obs k _ hS'
      obtain ⟨hl, hel⟩ := toPVs_get hps
      refine ⟨fun y => I y ∨ y = b, fun _ h => .inl h, fun y hy => ?_, fun y hy => ?_, fun v hv => ?_⟩
      · rcases hy with hy | rfl
        · exact hs.old y hy
        · exact hs.lt k _ sz0 h1
      · rcases hy with hy | rfl
        · exact .inl hy
        · exact .inr ⟨sz0, h1, _, hS'⟩
      · obtain ⟨b', sz', cap, cs', E', k1, hv, k3, k4, k5, k6⟩ := hv
        rw [h1] at k1
        simp at k1
        obtain ⟨rfl, rfl⟩ := k1
        rw [hv]
        have hpl : r.length + 1 = ps.length := by simpa using hl.symm
        refine .sl ps b 0 cap sz0 _ (fun i => (cs0.toList.drop (i * sz0)).take sz0) hpl k3 k4 (.inr rfl) (fun i hi => ?_) (fun i hi => ?_) (fun i hi => ?_)
        · have : (i + 1) * sz0 ≤ (x :: r).length * sz0 := Nat.mul_le_mul_right _ (by simp; omega)
          rw [Nat.add_mul] at this
          have h4' : (x :: r).length * sz0 ≤ cs0.size := h4
          simp only [List.length_take, List.length_drop, Array.length_toList]
          omega
        · intro j hj
          have : (i + 1) * sz0 ≤ (x :: r).length * sz0 := Nat.mul_le_mul_right _ (by simp; omega)
          rw [Nat.add_mul] at this
          have h4' : (x :: r).length * sz0 ≤ cs0.size := h4
          have hj' : j < sz0 ∧ i * sz0 + j < cs0.size := by simp at hj; omega
          simp only [World.cell?, h3, Option.isSome_none, Bool.false_eq_true, if_false, Nat.zero_add]
          rw [Array.getElem?_eq_getElem hj'.2]
          simp
        · have hx : i < (x :: r).length := by simp; omega
          exact (toPV_rdc (hel i hx hi) (h5 i hx)).mono (fun _ h => .inl h) fun _ _ => rfl
  have kp : Keeps ρ I w w := ⟨fun _ _ => rfl, fun _ _ _ _ cs E hc => ⟨cs, hc, rfl⟩⟩
  have hget : ∀ q (ob' : Ob), ((S.set k none).set o1 (some { ob with xs := ob.xs.set i (.agg (cs.set j (.pv (.sl ps)))) }))[q]? = some (some ob') → q ≠ k ∧ ∃ ob0, S[q]? = some (some ob0) ∧ ((q ≠ o1 ∧ ob' = ob0) ∨ (q = o1 ∧ ob0 = ob ∧ ob' = { ob with xs := ob.xs.set i (.agg (cs.set j (.pv (.sl ps)))) })) := fun q ob' hq => by
    rw [List.getElem?_set] at hq
    split at hq
    · rename_i e
      subst e
      split at hq <;> simp at hq
      exact ⟨fun e => hk e.symm, ob, hO, .inr ⟨rfl, rfl, hq.symm⟩⟩
    · rename_i hne
      rw [List.getElem?_set] at hq
      split at hq
      · split at hq <;> simp at hq
      · rename_i hne2
        exact ⟨fun e => hne2 e.symm, ob', hq, .inl ⟨fun e => hne e.symm, rfl⟩⟩
  refine ⟨E, _, ρ, I', h, { old := hI'old, obs := ?_, len := by simp [hs.len], lt := hs.lt, apart := ?_, inj := ?_ }, fun t => RD.mono hII kp (he t), ?_⟩
  · intro q ob' hq
    obtain ⟨hqk, ob0, g1, g2⟩ := hget q ob' hq
    obtain ⟨b, sz', k1, k2, cs0, k3, k4, k5⟩ := hs.obs q ob0 g1
    rcases g2 with ⟨_, rfl⟩ | ⟨rfl, rfl, rfl⟩
    · exact ⟨b, sz', k1, k2, cs0, k3, k4, fun i hi => RDc.mono hII kp (k5 i hi)⟩
    · refine ⟨b, sz', k1, k2, cs0, k3, by simpa using k4, fun q' hq' => ?_⟩
      have hq2 : q' < ob0.xs.length := by simpa using hq'
      have old := k5 q' hq2
      by_cases e : q' = i
      · subst e
        rw [List.getElem?_eq_getElem hq2] at hi
        simp at hi
        simp only [List.getElem_set_self]
        rw [hi] at old
        refine ⟨by simpa using old.1, fun m hm hm' => ?_⟩
        have hm2 : m < cs.length := by simpa using hm'
        have c0 := old.2 m hm hm2
        by_cases em : m = j
        · subst em
          simp only [List.getElem_set_self]
          rw [List.getElem?_eq_getElem hm2] at hj
          simp at hj
          rw [hj] at c0
          exact hrd _ (by cases xs <;> exact c0)
        · rw [List.getElem_set_ne (fun e => em e.symm)]
          exact R1.mono hII kp c0
      · simp only [List.getElem_set_ne (fun e' => e e'.symm)]
        exact RDc.mono hII kp old
  · intro q b' sz' ob' hq hρ hI
    obtain ⟨hqk, ob0, g1, g2⟩ := hget q ob' hq
    rcases hI'new b' hI with hI | ⟨sz0, hk1, ob1, hk2⟩
    · exact hs.apart q b' sz' ob0 g1 hρ hI
    · exact hqk (hs.inj q k b' sz' sz0 ob0 ob1 g1 hk2 hρ hk1)
  · intro q q' b' sz1 sz2 obq obq' hq hq' hρ hρ'
    obtain ⟨_, ob0, g1, _⟩ := hget q obq hq
    obtain ⟨_, ob0', g1', _⟩ := hget q' obq' hq'
    exact hs.inj q q' b' sz1 sz2 ob0 ob0' g1 g1' hρ hρ'
  · exact {
      os := rfl
      tape := rfl
      output := rfl
      size := Nat.le_refl _
      kept := Nat.min_le_right _ _
      block := fun _ _ _ => rfl
      im := fun _ h => ⟨hII _ h, rfl⟩
      inew := fun q hq => (hI'new q hq).elim .inl fun ⟨sz0, h1, _⟩ => .inr (.inr ⟨k, sz0, h1⟩)
      rnew := fun o b sz ho => .inl ⟨o, sz, ho⟩
      fix := fun o b sz _ ho => ⟨ho, fun cs E hc => ⟨cs, hc, rfl⟩⟩ }
theorem Bd.frzFB {k0 : Nat} {E : Env} {S : Store} {R : Env → Store → Prop} (k o1 i j : Nat) (ty sz : Nat) {xs : List D} {ps : List PV} {ob : Ob} {cs : List D} (hk : k ≠ o1) (hS : S[k]? = some (obD ty sz xs)) (hps : toPVs xs = some ps) (hO : S[o1]? = some (some ob)) (hi : ob.xs[i]? = some (.agg cs)) (hj : cs[j]? = some (ownD k xs))
    (h : Bd k0 E ((S.set k none).set o1 (some { ob with xs := ob.xs.set i (.agg (cs.set j (.pv (.sl ps)))) })) R) : Bd k0 E S R :=
  Bd.then (Bd.frzF (R := fun E' S' => E' = E ∧ S' = (S.set k none).set o1 (some { ob with xs := ob.xs.set i (.agg (cs.set j (.pv (.sl ps)))) })) k o1 i j ty sz hk hS hps hO hi hj ⟨rfl, rfl⟩) (by rintro _ _ ⟨rfl, rfl⟩; exact h)
theorem mp1_own {os : List Nat} {o k : Nat} (h : posOf os o = some k) : ∀ {xs : List D}, mp1 (inv os) (ownD o xs) = ownD k xs
  | [] => rfl
  | _ :: _ => by simp [ownD, mp1, mp0, inv, h]
def onePV : PV → Bool
  | .agg _ => false
  | .tup _ => false
  | _ => true
/-- a struct of pure fields is pure -/
theorem Bd.aggP {k0 : Nat} {E : Env} {S : Store} {R : Env → Store → Prop} (o i : Nat) {ob : Ob} (ps : List PV) (hO : S[o]? = some (some ob)) (hi : ob.xs[i]? = some (.agg (ps.map .pv)))
    (h : Bd k0 E (S.set o (some { ob with xs := ob.xs.set i (.pv (.agg ps)) })) R) : Bd k0 E S R := by
  refine Bd.then (R' := fun E' S' => E' = E ∧ S' = S.set o (some { ob with xs := ob.xs.set i (.pv (.agg ps)) })) ?_ (by rintro _ _ ⟨rfl, rfl⟩; exact h)
  intro ρ I w a hs he hk
  have hget : ∀ q (ob' : Ob), (S.set o (some { ob with xs := ob.xs.set i (.pv (.agg ps)) }))[q]? = some (some ob') → ∃ ob0, S[q]? = some (some ob0) ∧ ((q ≠ o ∧ ob' = ob0) ∨ (q = o ∧ ob0 = ob ∧ ob' = { ob with xs := ob.xs.set i (.pv (.agg ps)) })) := fun q ob' hq => by
    rw [List.getElem?_set] at hq
    split at hq
    · rename_i e
      subst e
      split at hq <;> simp at hq
      exact ⟨ob, hO, .inr ⟨rfl, rfl, hq.symm⟩⟩
    · rename_i hne
      exact ⟨ob', hq, .inl ⟨fun e => hne e.symm, rfl⟩⟩
  refine ⟨E, _, ρ, I, ⟨rfl, rfl⟩, { old := hs.old, obs := ?_, len := by simp [hs.len], lt := hs.lt, apart := ?_, inj := ?_ }, he, Ext.refl _ _ _ _⟩
  · intro q ob' hq
    obtain ⟨ob0, g1, g2⟩ := hget q ob' hq
    obtain ⟨b, sz', k1, k2, cs0, k3, k4, k5⟩ := hs.obs q ob0 g1
    rcases g2 with ⟨_, rfl⟩ | ⟨rfl, rfl, rfl⟩
    · exact ⟨b, sz', k1, k2, cs0, k3, k4, k5⟩
    · refine ⟨b, sz', k1, k2, cs0, k3, by simpa using k4, fun q' hq' => ?_⟩
      have hq2 : q' < ob0.xs.length := by simpa using hq'
      have old := k5 q' hq2
      by_cases e : q' = i
      · subst e
        rw [List.getElem?_eq_getElem hq2] at hi
        simp at hi
        simp only [List.getElem_set_self]
        rw [hi] at old
        refine RC.agg _ _ (by simpa using old.1) fun m hm hm' => ?_
        have := old.2 m hm (by simpa using hm')
        simp only [List.getElem_map] at this
        exact this
      · simp only [List.getElem_set_ne (fun e' => e e'.symm)]
        exact old
  · intro q b' sz' ob' hq hρ
    obtain ⟨ob0, g1, _⟩ := hget q ob' hq
    exact hs.apart q b' sz' ob0 g1 hρ
  · intro q q' b' sz1 sz2 obq obq' hq hq' hρ hρ'
    obtain ⟨ob0, g1, _⟩ := hget q obq hq
    obtain ⟨ob0', g1', _⟩ := hget q' obq' hq'
    exact hs.inj q q' b' sz1 sz2 ob0 ob0' g1 g1' hρ hρ'
section q
variable {P : Program} {sf : SM} {r : RT} {L : List (Nat × D)} {S : Store} {K : Env → Store → Prop} {t : Nat}
theorem q_eql_v (v : Bool) {x y : Opd} {k : IntKind} {a b : Int} (hx : ev (env L) x = .pv (.int k a)) (hy : ev (env L) y = .pv (.int k b)) (hv : (decide (a = b)) = v) (h : RG P sf r (env ((t, .pv (.bool v)) :: L)) S K) : RG P sf (.op ⟨some t, none, .bin .eql x y⟩ r) (env L) S K := by
  subst hv; exact q_eql hx hy h
theorem q_neq_v (v : Bool) {x y : Opd} {k : IntKind} {a b : Int} (hx : ev (env L) x = .pv (.int k a)) (hy : ev (env L) y = .pv (.int k b)) (hv : (!decide (a = b)) = v) (h : RG P sf r (env ((t, .pv (.bool v)) :: L)) S K) : RG P sf (.op ⟨some t, none, .bin .neq x y⟩ r) (env L) S K := by
  subst hv; exact q_neq hx hy h
theorem q_lss_v (v : Bool) {x y : Opd} {k : IntKind} {a b : Int} (hx : ev (env L) x = .pv (.int k a)) (hy : ev (env L) y = .pv (.int k b)) (hv : (decide (a < b)) = v) (h : RG P sf r (env ((t, .pv (.bool v)) :: L)) S K) : RG P sf (.op ⟨some t, none, .bin .lss x y⟩ r) (env L) S K := by
  subst hv; exact q_lss hx hy h
theorem q_leq_v (v : Bool) {x y : Opd} {k : IntKind} {a b : Int} (hx : ev (env L) x = .pv (.int k a)) (hy : ev (env L) y = .pv (.int k b)) (hv : (decide (a ≤ b)) = v) (h : RG P sf r (env ((t, .pv (.bool v)) :: L)) S K) : RG P sf (.op ⟨some t, none, .bin .leq x y⟩ r) (env L) S K := by
  subst hv; exact q_leq hx hy h
theorem q_gtr_v (v : Bool) {x y : Opd} {k : IntKind} {a b : Int} (hx : ev (env L) x = .pv (.int k a)) (hy : ev (env L) y = .pv (.int k b)) (hv : (decide (b < a)) = v) (h : RG P sf r (env ((t, .pv (.bool v)) :: L)) S K) : RG P sf (.op ⟨some t, none, .bin .gtr x y⟩ r) (env L) S K := by
  subst hv; exact q_gtr hx hy h
theorem q_geq_v (v : Bool) {x y : Opd} {k : IntKind} {a b : Int} (hx : ev (env L) x = .pv (.int k a)) (hy : ev (env L) y = .pv (.int k b)) (hv : (decide (b ≤ a)) = v) (h : RG P sf r (env ((t, .pv (.bool v)) :: L)) S K) : RG P sf (.op ⟨some t, none, .bin .geq x y⟩ r) (env L) S K := by
  subst hv; exact q_geq hx hy h
theorem q_not_v (v : Bool) {x : Opd} {b : Bool} (hx : ev (env L) x = .pv (.bool b)) (hv : (!b) = v) (h : RG P sf r (env ((t, .pv (.bool v)) :: L)) S K) : RG P sf (.op ⟨some t, none, .not x⟩ r) (env L) S K := by
  subst hv; exact q_not hx h
theorem q_peq_v (v : Bool) {ng : Bool} {x y : Opd} {k l k' l' : IntKind} {a b a' b' : Int} (hx : cellsD (ev (env L) x) = some [.pv (.int k a), .pv (.int l b)]) (hy : cellsD (ev (env L) y) = some [.pv (.int k' a'), .pv (.int l' b')]) (hk : k = k' ∧ l = l')
    (hv : (if ng then !(decide (a = a') && decide (b = b')) else decide (a = a') && decide (b = b')) = v) (h : RG P sf r (env ((t, .pv (.bool v)) :: L)) S K) : RG P sf (.op ⟨some t, none, .peq ng x y⟩ r) (env L) S K := by
  subst hv; exact q_peq hx hy hk h
theorem q_beq_v (v : Bool) {ng : Bool} {x y : Opd} {a b : Bool} (hx : ev (env L) x = .pv (.bool a)) (hy : ev (env L) y = .pv (.bool b)) (hv : (if ng then !(a == b) else a == b) = v) (h : RG P sf r (env ((t, .pv (.bool v)) :: L)) S K) : RG P sf (.op ⟨some t, none, .beq ng x y⟩ r) (env L) S K := by
  subst hv; exact q_beq hx hy h
theorem q_mv_v (d : D) {x : Opd} (hx : ev (env L) x = d) (h : RG P sf r (env ((t, d) :: L)) S K) : RG P sf (.op ⟨some t, none, .mv x⟩ r) (env L) S K := q_mv hx h
theorem q_calle {f : FuncId} {args : List Opd} {ps : List PV} {Post : PV → Prop} (hm : cOK sf = true) (hc : PCon P f ps Post) (ha : toPVs (args.map (ev (env L))) = some ps) (hs : sOK sf S) (h : ∀ p, Post p → RG P sf r (env ((t, ofPV p) :: L)) S K) : RG P sf (.op ⟨some t, none, .call f args⟩ r) (env L) S K :=
  q_call hm (CallS.pure hc ha fun p hp => ⟨hs, h p hp⟩)
end q

inductive SubL : Store → Store → Prop
  | nil {S : Store} : SubL [] S
  | none {A S : Store} {x : Option Ob} (h : SubL A S) : SubL (none :: A) (x :: S)
  | some {A S : Store} {a : Ob} (h : SubL A S) : SubL (some a :: A) (some a :: S)
  | eq {A S : Store} {a : Option Ob} (h : SubL A S) : SubL (a :: A) (a :: S)
  | sh {A S : Store} {ty sz : Nat} {xs : List D} (h : SubL A S) : SubL (some ⟨ty, sz, []⟩ :: A) (some ⟨ty, sz, xs⟩ :: S)
theorem SubL.sub {A S : Store} (h : SubL A S) : Sub A S := by
  induction h with
  | nil => exact Sub.nil
  | none h ih =>
    intro o ob g
    cases o with
    | zero => simp at g
    | succ o => exact ih o ob (by simpa using g)
  | some h ih =>
    intro o ob g
    cases o with
    | zero => exact ⟨ob, by simpa using g, rfl, rfl, [], by simp⟩
    | succ o => exact ih o ob (by simpa using g)
  | eq h ih =>
    intro o ob g
    cases o with
    | zero => exact ⟨ob, by simpa using g, rfl, rfl, [], by simp⟩
    | succ o => exact ih o ob (by simpa using g)
  | sh h ih =>
    intro o ob g
    cases o with
    | zero =>
      simp at g
      subst g
      exact ⟨_, rfl, rfl, rfl, _, rfl⟩
    | succ o => exact ih o ob (by simpa using g)
theorem nd_t {p : Prop} [Decidable p] (h : p) : (!decide p) = false := by simp [h]
theorem nd_f {p : Prop} [Decidable p] (h : ¬ p) : (!decide p) = true := by simp [h]
section q
variable {P : Program} {sf : SM} {r : RT} {L : List (Nat × D)} {S : Store} {K : Env → Store → Prop} {t : Nat} {α : Type} [Inhabited α]
theorem q_idx_c {sz : Nat} {x i : Opd} {f : α → PV} {xs : List α} {k : IntKind} (j : Nat) (hx : ev (env L) x = .pv (.sl (xs.map f))) (hi : ev (env L) i = .pv (.int k j)) (h1 : j < xs.length) (hsz : ∀ a, (f a).nc = sz)
    (h : RG P sf r (env ((t, .pv (.con (f (nth xs j)))) :: L)) S K) : RG P sf (.op ⟨some t, none, .idx sz x i⟩ r) (env L) S K :=
  q_idx_m hx hi (by omega) (by omega) hsz (by rw [Int.toNat_natCast]; exact h)
theorem q_idx_n {sz : Nat} {x i : Opd} {f : α → PV} {xs : List α} {k : IntKind} {n : Int} (j : Nat) (hx : ev (env L) x = .pv (.sl (xs.map f))) (hi : ev (env L) i = .pv (.int k n)) (hj : n = j) (h1 : j < xs.length) (hsz : ∀ a, (f a).nc = sz)
    (h : RG P sf r (env ((t, .pv (.con (f (nth xs j)))) :: L)) S K) : RG P sf (.op ⟨some t, none, .idx sz x i⟩ r) (env L) S K := by
  subst hj; exact q_idx_c j hx hi h1 hsz h
end q

/-! pure contracts out of contracts over own objects -/
def Reads (d : D) (S : Store) (p : PV) : Prop :=
  ∀ (ρ : Rho) (I : Nat → Prop) (w : World) (u : Value), St ρ I w S → RD ρ I w u d → RD [] (allI ρ I) w u (ofPV p)
theorem RVs_RDs {I : Nat → Prop} {w : World} : ∀ {vs : List Value} {ps : List PV}, RVs I w vs ps → RDs [] I w vs (ps.map .pv)
  | [], [], _ => trivial
  | _ :: _, _ :: _, h => ⟨h.1, RVs_RDs h.2⟩
  | [], _ :: _, h => h.elim
  | _ :: _, [], h => h.elim
theorem PCon.of_callS {P : Program} {f : FuncId} {ps : List PV} {c : D → Store → Prop} {Post : PV → Prop} (h : CallS P f (ps.map .pv) [] c) (hp : ∀ d S, c d S → ∃ p, Post p ∧ Reads d S p) : PCon P f ps Post := fun I w vs hI hv => by
  have hst : St [] I w [] := ⟨⟨hI, by simp⟩, rfl, by simp, by simp, by simp⟩
  refine (h [] I w vs hst (RVs_RDs hv)).mono fun e w' ⟨u, d, ρ', I', S', h1, h2, h3, h4, hext⟩ => ?_
  obtain ⟨p, hpost, hr⟩ := hp d S' h2
  refine ⟨u, p, allI ρ' I', h1, hpost, ?_, hr ρ' I' w' u h3 h4⟩
  exact {
    os := hext.os
    tape := hext.tape
    output := hext.output
    size := hext.size
    block := fun k hk => hext.block k hk (by simp)
    imono := fun b hb => .inl (hext.im b hb).1
    inew := fun b hb => by
      rcases hb with hb | ⟨o, sz, ho⟩
      · rcases hext.inew b hb with h1 | h1 | ⟨o, sz, h1⟩
        · exact .inl h1
        · exact .inr ⟨h1, h3.old b hb⟩
        · simp at h1
      · rcases hext.rnew o b sz ho with ⟨o', sz', h1⟩ | h1
        · simp at h1
        · exact .inr ⟨h1, h3.lt o b sz ho⟩ }
theorem reads_own {o ty sz : Nat} {S : Store} {xs : List D} {ps : List PV} (hS : S[o]? = some (obD ty sz xs)) (hps : optMap (toR 4 S) xs = some ps) : Reads (ownD o xs) S (.sl ps) := fun ρ I w u hs hr => by
  cases xs with
  | nil =>
    simp [optMap] at hps; subst hps
    obtain ⟨a, hv⟩ := rd_nils.1 hr
    rw [hv]
    exact (rd_pv rfl).2 (.sl0 _ _ (by unfold maxLen; omega))
  | cons x r =>
    refine toR_rd (n := 5) (p := .sl ps) hs ?_ hr
    have hS' : S[o]? = some (some ⟨ty, sz, x :: r⟩) := hS
    have e1 : toR 5 S (ownD o (x :: r)) = (match S[o]? with
        | some (some ob) => if r.length + 1 ≤ ob.xs.length then (optMap (toR 4 S) (ob.xs.take (r.length + 1))).map .sl else none
        | _ => none) := rfl
    rw [e1, hS']
    dsimp only
    rw [if_pos (by simp), List.take_of_length_le (by simp), hps]
    rfl
theorem reads_pv {S : Store} {p : PV} (hp : ∀ ps, p ≠ .tup ps) : Reads (.pv p) S p := fun ρ I w u hs hr => by
  have : ofPV p = .pv p := by cases p <;> first | rfl | exact absurd rfl (hp _)
  rw [this]
  have h2 : RD [] I w u (.pv p) := rd_pv_rho hr
  exact RD.mono (fun _ h => .inl h) ⟨fun _ _ => rfl, fun _ _ _ h => by simp at h⟩ h2
end Go.V
