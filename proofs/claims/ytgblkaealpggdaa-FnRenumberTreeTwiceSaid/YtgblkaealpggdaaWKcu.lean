/- A part of the proofs about laws of the page tree (see the text that bears the law): a small language of steps, its rules, and what the functions of the program return. -/
import Derived.Test.YtgblkaealpggdaaWKct
import Derived.Test.YtgblkaealpggdaaWKbn
import Derived.Test.YtgblkaealpggdaaQX
set_option linter.all false
set_option linter.unusedVariables false
set_option linter.unusedSimpArgs false
set_option maxHeartbeats 4000000
namespace Go.V
open Go.Proofs.Try (prog)
theorem ocu {os : List Nat} (h : os[0]? = some 0) : ∀ i, i < 1 → os[i]? = some i := fun i hi => by
 have e : i = 0 := by omega
 subst e; exact h
set_option maxRecDepth 100000
theorem sl_impl_orderBelow : slimF prog 54 = some (30, (.seq (.reg 0 (.o 3 (.box 39 2 (.t 0)) (.o 6 (.mv (.c .nils)) .nil))) (.seq (.reg 0 (.o 9 (.mv (.t 2)) (.o 10 (.mv (.t 1)) (.o 11 (.lit 3 1 1 [.pv (.int .i64 0)] [(0, .t 10)]) (.o 12 (.app 3 1 8 (.t 9) (.t 11)) (.o 2 (.mv (.t 12)) .nil)))))) (.seq (.seq (.reg 0 (.o 13 (.fld 1 1 false (.t 3)) (.o 14 (.load 1 false (.t 13)) (.o 15 (.mv (.t 1)) (.o 16 (.idx 3 (.t 14) (.t 15)) (.o 17 (.fld 1 1 false (.t 16)) (.o 18 (.load 1 false (.t 17)) (.o 19 (.len (.t 18)) (.o 20 (.mv (.c (.pv (.int .i64 0)))) .nil))))))))) (.block 0 (.loop (.seq (.reg 0 (.o 21 (.bin .lss (.t 20) (.t 19)) .nil)) (.seq (.cond (.t 21) .skip (.exit 0)) (.seq (.block 1 (.seq (.reg 0 (.o 22 (.idx 1 (.t 18) (.t 20)) (.o 23 (.load 1 false (.t 22)) (.o 8 (.mv (.t 23)) .nil)))) (.reg 0 (.o 24 (.load 2 true (.t 3)) (.o 25 (.mv (.t 8)) (.o 26 (.mv (.t 2)) (.o 27 (.call 54 [.t 24, .t 25, .t 26]) (.o 2 (.mv (.t 27)) .nil)))))))) (.reg 0 (.o 28 (.bin .add (.t 20) (.c (.pv (.int .i64 1)))) (.o 20 (.mv (.t 28)) .nil))))))))) (.seq (.reg 0 (.o 29 (.mv (.t 2)) (.o 6 (.mv (.t 29)) .nil))) .ret))), [.t 6])) := by kernel_rfl
theorem c_impl_orderBelow_step (t : Pt) (hs : smallT t) (i : Int) (h : Nat) (ys : List Int) (hw : wkT t (h + 1) i = true) (hb : ys.length + (wlk t (h + 1) i).length ≤ 1000000) (ih : ∀ c ys, wkT t h c = true → ys.length + (wlk t h c).length ≤ 1000000 → AppS prog 54 3 [ptP t, i64 c] ys (wlk t h c)) : CallS prog 54 [.pv (ptP t), .pv (i64 i), ownD 0 (dI ys)] [obD 3 1 (dI ys)] (fun d S => ∃ T, d = ownD 1 (dI (ys ++ wlk t (h + 1) i)) ∧ S = none :: obD 3 1 (dI (ys ++ wlk t (h + 1) i)) :: T) := by
 have hw2 := wk_kid hw
 have hin := hw2.1
 have hi2 := inT_iff.1 hin
 have hsz := hs.2 i hi2.1 hi2.2
 obtain ⟨p, hp⟩ : ∃ p, nth t.ps i.toNat = p := ⟨_, rfl⟩
 have hpp : pg t i = p := hp
 rw [wlk_succ] at hb
 rw [hpp] at hsz hw2 hb
 rw [List.length_cons] at hb
 refine callS_of_VS sl_impl_orderBelow (by simp) (VS_seq ?_)
 refine VS_bd (Bd.mv0 2 rfl ?_)
 refine VS_r0 rfl (q_box rfl rfl rfl trivial (q_mv rfl (rg_nil (VS_seq (VS_r0 rfl (q_mv rfl (q_mv rfl (q_lit (xs := [i64 i]) rfl rfl rfl rfl (q_app_dm (xs := ys) (ys := [i]) (f := fun k => .pv (i64 k)) rfl rfl rfl rfl ⟨by simp; omega, by simp; omega⟩ trivial (q_mv rfl (rg_nil (VS_seq (VS_seq (VS_r0 rfl (q_fld_r rfl ?_)))))))))))))))
 refine q_load_r rfl rfl rfl rfl rfl rfl rfl (q_mv rfl (q_idx_m (f := pgP) (xs := t.ps) (n := i) rfl rfl (by omega) (by omega) (fun _ => rfl) ?_))
 rw [hp]
 refine q_fld_c rfl rfl (q_load_c rfl rfl rfl (q_len_m rfl (q_mv rfl (rg_nil (VS_block ?_)))))
 refine VS_bd (Bd.renL (S' := [none, obD 3 1 (dI (ys ++ [i])), some ⟨39, 2, [.pv (ptP t)]⟩]) [0, 3, 2] (ocu rfl) (by simp) [(2, ownD 1 (dI (ys ++ [i]))), (3, .ptr 2 0 0), (18, .pv (ints p.cs)), (19, .pv (i64 p.cs.length)), (20, .pv (i64 0))] ⟨inv_own rfl, rfl, rfl, rfl, rfl, trivial⟩ (l3 rfl (obD_mI _) rfl) ?_)
 refine VS_bd (Bd.keepL [(2, ownD 1 (dI (ys ++ [i]))), (3, .ptr 2 0 0), (18, .pv (ints p.cs)), (19, .pv (i64 p.cs.length)), (20, .pv (i64 0))] ⟨rfl, rfl, rfl, rfl, rfl, trivial⟩ ?_)
 refine VS_loop (fun mz E S => ∃ j : Nat, ∃ zs : List Int, mz = p.cs.length - j ∧ (j ≤ p.cs.length) ∧ (zs = ys ++ [i] ++ (p.cs.take j).flatMap (wlk t h)) ∧ (zs.length = ys.length + 1 + ((p.cs.take j).flatMap (wlk t h)).length) ∧ E = env [(2, ownD 1 (dI zs)), (3, .ptr 2 0 0), (18, .pv (ints p.cs)), (19, .pv (i64 p.cs.length)), (20, .pv (i64 j))] ∧ S = [none, obD 3 1 (dI zs), some ⟨39, 2, [.pv (ptP t)]⟩]) ⟨_, 0, ys ++ [i], rfl, (by omega), (by simp), (by simp), rfl, rfl⟩ ?_
 rintro mz _ _ ⟨j, zs, hmeas, g0, g1, g2, rfl, rfl⟩
 refine VS_seq (VS_r0 rfl (q_lss rfl rfl (rg_nil (VS_seq ?_))))
 refine VS_cond rfl (fun c0 => ?_) (fun c0 => ?_)
 ·try simp at c0
  have hwp := wlk_part (t := t) (h := h) (cs := p.cs) (j := j) (by omega)
  refine VS_skip (VS_seq (VS_block (VS_seq (VS_r0 rfl (q_idx_at (f := fun k => i64 k) (xs := p.cs) (m := j) rfl rfl (by omega) (fun _ => rfl) (q_load_c rfl rfl rfl (q_mv rfl (rg_nil (VS_r0 rfl (q_load_ra rfl rfl rfl rfl rfl (by (simp; done)) rfl (q_mv rfl (q_mv rfl ?_))))))))))))
  refine q_apps (o := 1) rfl (ih (nth p.cs j) zs (hw2.2 _ (nth_mem (by omega))) (by omega)) (by repeat (first | exact trivial | refine ⟨.inl rfl, ?_⟩ | refine ⟨.inr ⟨_, rfl, rfl⟩, ?_⟩)) rfl trivial ?_
  refine q_mv rfl (rg_nil (VS_r0 rfl (q_add rfl rfl (inR64 (by omega)) (q_mv rfl (rg_nil ?_)))))
  refine Bd.renL [0, 3, 2] (ocu rfl) (by simp) [(2, ownD 1 (dI (zs ++ wlk t h (nth p.cs j)))), (3, .ptr 2 0 0), (18, .pv (ints p.cs)), (19, .pv (i64 p.cs.length)), (20, .pv (i64 (j + 1)))] ⟨inv_own rfl, rfl, rfl, rfl, rfl, trivial⟩ (l3 rfl (obD_mI _) rfl) ⟨_, ?_, j + 1, zs ++ wlk t h (nth p.cs j), rfl, ?_, ?_, ?_, rfl, rfl⟩
  ·omega
  ·omega
  ·rw [g1, flat_take (by omega)]; simp
  ·rw [flat_take (by omega), List.length_append, List.length_append]; omega
 ·try simp at c0
  refine VS_exit (VS_seq (VS_r0 rfl (q_mv rfl (q_mv rfl (rg_nil (VS_ret ?_))))))
  have e : j = p.cs.length := by omega
  rw [e, List.take_length] at g1
  have e2 : zs = ys ++ wlk t (h + 1) i := by rw [g1, wlk_succ, hpp]; simp
  refine Bd.renL (S' := [none, obD 3 1 (dI (zs))]) [0, 1] (ocu rfl) (by simp) [(6, ownD 1 (dI (zs)))] ⟨inv_own rfl, trivial⟩ (l2 rfl (obD_mI _)) ?_
  exact ⟨_, res_own rfl, _, by rw [e2], by rw [e2]⟩
theorem c_impl_orderBelow (t : Pt) (hs : smallT t) : ∀ (h : Nat) (i : Int) (ys : List Int), wkT t h i = true → ys.length + (wlk t h i).length ≤ 1000000 → AppS prog 54 3 [ptP t, i64 i] ys (wlk t h i) := by
 intro h
 induction h with
 | zero => intro i ys hw; simp [wkT] at hw
 | succ h ih => intro i ys hw hb; exact c_impl_orderBelow_step t hs i h ys hw hb ih
end Go.V
