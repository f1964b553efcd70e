/- A part of the proofs about laws of the page tree (see the text that bears the law): a small language of steps, its rules, and what the functions of the program return. -/
import Derived.Test.YtanckppjkbfbfaaWKbm
import Derived.Test.YtanckppjkbfbfaaQL
import Derived.Test.YtanckppjkbfbfaaWB
set_option linter.all false
set_option linter.unusedVariables false
set_option linter.unusedSimpArgs false
set_option maxHeartbeats 4000000
namespace Go.V
open Go.Proofs.Try (prog)
theorem zbn (os : List Nat) : ∀ i, i < 0 → os[i]? = some i := fun i hi => absurd hi (Nat.not_lt_zero i)
theorem obn {os : List Nat} (h : os[0]? = some 0) : ∀ i, i < 1 → os[i]? = some i := fun i hi => by
 have e : i = 0 := by omega
 subst e; exact h
set_option maxRecDepth 100000
theorem sl_impl_leavesBelow : slimF prog 44 = some (38, (.seq (.reg 0 (.o 3 (.box 25 2 (.t 0)) (.o 6 (.mv (.c .nils)) .nil))) (.seq (.seq (.reg 0 (.o 9 (.fld 1 1 false (.t 3)) (.o 10 (.load 1 false (.t 9)) (.o 11 (.mv (.t 1)) (.o 12 (.idx 3 (.t 10) (.t 11)) (.o 13 (.fld 1 1 false (.t 12)) (.o 14 (.load 1 false (.t 13)) (.o 15 (.len (.t 14)) (.o 16 (.bin .eql (.t 15) (.c (.pv (.int .i64 0)))) .nil))))))))) (.cond (.t 16) (.seq (.reg 0 (.o 17 (.mv (.t 2)) (.o 18 (.mv (.t 1)) (.o 19 (.lit 3 1 1 [.pv (.int .i64 0)] [(0, .t 18)]) (.o 20 (.app 3 1 8 (.t 17) (.t 19)) (.o 6 (.mv (.t 20)) .nil)))))) .ret) .skip)) (.seq (.seq (.reg 0 (.o 21 (.fld 1 1 false (.t 3)) (.o 22 (.load 1 false (.t 21)) (.o 23 (.mv (.t 1)) (.o 24 (.idx 3 (.t 22) (.t 23)) (.o 25 (.fld 1 1 false (.t 24)) (.o 26 (.load 1 false (.t 25)) (.o 27 (.len (.t 26)) (.o 28 (.mv (.c (.pv (.int .i64 0)))) .nil))))))))) (.block 0 (.loop (.seq (.reg 0 (.o 29 (.bin .lss (.t 28) (.t 27)) .nil)) (.seq (.cond (.t 29) .skip (.exit 0)) (.seq (.block 1 (.seq (.reg 0 (.o 30 (.idx 1 (.t 26) (.t 28)) (.o 31 (.load 1 false (.t 30)) (.o 8 (.mv (.t 31)) .nil)))) (.reg 0 (.o 32 (.load 2 true (.t 3)) (.o 33 (.mv (.t 8)) (.o 34 (.mv (.t 2)) (.o 35 (.call 44 [.t 32, .t 33, .t 34]) (.o 2 (.mv (.t 35)) .nil)))))))) (.reg 0 (.o 36 (.bin .add (.t 28) (.c (.pv (.int .i64 1)))) (.o 28 (.mv (.t 36)) .nil))))))))) (.seq (.reg 0 (.o 37 (.mv (.t 2)) (.o 6 (.mv (.t 37)) .nil))) .ret))), [.t 6])) := by kernel_rfl
theorem c_impl_leavesBelow_step (t : Pt) (hs : smallT t) (i : Int) (h : Nat) (ys : List Int) (hw : wkT t (h + 1) i = true) (hb : ys.length + (wlk t (h + 1) i).length ≤ 1000000) (ih : ∀ c ys, wkT t h c = true → ys.length + (wlk t h c).length ≤ 1000000 → AppS prog 44 3 [ptP t, i64 c] ys (lvB t h c)) : CallS prog 44 [.pv (ptP t), .pv (i64 i), ownD 0 (dI ys)] [obD 3 1 (dI ys)] (fun d S => ∃ T, d = ownD 1 (dI (ys ++ lvB t (h + 1) i)) ∧ S = none :: obD 3 1 (dI (ys ++ lvB t (h + 1) i)) :: T) := by
 have hw2 := wk_kid hw
 have hin := hw2.1
 have hi2 := inT_iff.1 hin
 have hsz := hs.2 i hi2.1 hi2.2
 obtain ⟨p, hp⟩ : ∃ p, nth t.ps i.toNat = p := ⟨_, rfl⟩
 have hpp : pg t i = p := hp
 rw [wlk_succ] at hb
 rw [hpp] at hsz hw2 hb
 rw [List.length_cons] at hb
 refine callS_of_VS sl_impl_leavesBelow (by simp) (VS_seq ?_)
 refine VS_bd (Bd.mv0 2 rfl ?_)
 refine VS_r0 rfl (q_box rfl rfl rfl trivial (q_mv rfl (rg_nil (VS_seq (VS_seq (VS_r0 rfl (q_fld_r rfl (q_load_r rfl rfl rfl rfl rfl rfl rfl (q_mv rfl (q_idx_m (f := pgP) (xs := t.ps) (n := i) rfl rfl (by omega) (by omega) (fun _ => rfl) ?_))))))))))
 rw [hp]
 refine q_fld_c rfl rfl (q_load_c rfl rfl rfl (q_len_m rfl (q_eql rfl rfl (rg_nil ?_))))
 refine VS_cond rfl (fun c0 => ?_) (fun c0 => ?_)
 ·try simp at c0
  refine VS_seq (VS_r0 rfl (q_mv rfl (q_mv rfl (q_lit (xs := [i64 i]) rfl rfl rfl rfl (q_app_dm (xs := ys) (ys := [i]) (f := fun k => .pv (i64 k)) rfl rfl rfl rfl ⟨by simp; omega, by simp; omega⟩ trivial (q_mv rfl (rg_nil (VS_ret ?_))))))))
  have hl := lvB_leaf (t := t) (h := h) (i := i) (by rw [hpp]; first | omega | simp_all)
  refine Bd.renL (S' := [none, obD 3 1 (dI (ys ++ [i]))]) [0, 3] (obn rfl) (by simp) [(6, ownD 1 (dI (ys ++ [i])))] ⟨inv_own rfl, trivial⟩ (l2 rfl (obD_mI _)) ?_
  exact ⟨_, res_own rfl, _, by rw [hl], by rw [hl]⟩
 ·try simp at c0
  refine VS_skip (VS_seq (VS_seq (VS_r0 rfl (q_fld_r rfl (q_load_r rfl rfl rfl rfl rfl rfl rfl (q_mv rfl (q_idx_m (f := pgP) (xs := t.ps) (n := i) rfl rfl (by omega) (by omega) (fun _ => rfl) ?_)))))))
  rw [hp]
  refine q_fld_c rfl rfl (q_load_c rfl rfl rfl (q_len_m rfl (q_mv rfl (rg_nil (VS_block ?_)))))
  refine VS_bd (Bd.keepL [(2, ownD 1 (dI ys)), (3, .ptr 2 0 0), (26, .pv (ints p.cs)), (27, .pv (i64 p.cs.length)), (28, .pv (i64 0))] ⟨rfl, rfl, rfl, rfl, rfl, trivial⟩ ?_)
  refine VS_loop (fun mz E S => ∃ j : Nat, ∃ zs : List Int, mz = p.cs.length - j ∧ (j ≤ p.cs.length) ∧ (zs = ys ++ (p.cs.take j).flatMap (lvB t h)) ∧ (zs.length ≤ ys.length + ((p.cs.take j).flatMap (wlk t h)).length) ∧ E = env [(2, ownD 1 (dI zs)), (3, .ptr 2 0 0), (26, .pv (ints p.cs)), (27, .pv (i64 p.cs.length)), (28, .pv (i64 j))] ∧ S = [none, obD 3 1 (dI zs), some ⟨25, 2, [.pv (ptP t)]⟩]) ⟨_, 0, ys, rfl, (by omega), (by simp), (by simp), rfl, rfl⟩ ?_
  rintro mz _ _ ⟨j, zs, hmeas, g0, g1, g2, rfl, rfl⟩
  refine VS_seq (VS_r0 rfl (q_lss rfl rfl (rg_nil (VS_seq ?_))))
  refine VS_cond rfl (fun c1 => ?_) (fun c1 => ?_)
  ·try simp at c1
   have hwp := wlk_part (t := t) (h := h) (cs := p.cs) (j := j) (by omega)
   have hlb := lvB_len (t := t) (h := h) (i := nth p.cs j)
   refine VS_skip (VS_seq (VS_block (VS_seq (VS_r0 rfl (q_idx_m (f := fun k => i64 k) (xs := p.cs) (n := (j : Int)) rfl rfl (by omega) (by omega) (fun _ => rfl) (q_load_c rfl rfl rfl (q_mv rfl (rg_nil (VS_r0 rfl (q_load_ra rfl rfl rfl rfl rfl (by (simp; done)) rfl (q_mv rfl (q_mv rfl ?_))))))))))))
   refine q_apps (o := 1) rfl (ih (nth p.cs j) zs (hw2.2 _ (nth_mem (by omega))) (by omega)) (by repeat (first | exact trivial | refine ⟨.inl rfl, ?_⟩ | refine ⟨.inr ⟨_, rfl, rfl⟩, ?_⟩)) rfl trivial ?_
   refine q_mv rfl (rg_nil (VS_r0 rfl (q_add rfl rfl (inR64 (by omega)) (q_mv rfl (rg_nil ?_)))))
   refine Bd.renL [0, 3, 2] (obn rfl) (by simp) [(2, ownD 1 (dI (zs ++ lvB t h (nth p.cs j)))), (3, .ptr 2 0 0), (26, .pv (ints p.cs)), (27, .pv (i64 p.cs.length)), (28, .pv (i64 (j + 1)))] ⟨inv_own rfl, rfl, rfl, rfl, rfl, trivial⟩ (l3 rfl (obD_mI _) rfl) ⟨_, ?_, j + 1, zs ++ lvB t h (nth p.cs j), rfl, ?_, ?_, ?_, rfl, rfl⟩
   ·omega
   ·omega
   ·rw [g1, flat_take (by omega), List.append_assoc]
   ·rw [flat_take (by omega), List.length_append, List.length_append]; omega
  ·try simp at c1
   refine VS_exit (VS_seq (VS_r0 rfl (q_mv rfl (q_mv rfl (rg_nil (VS_ret ?_))))))
   have hl := lvB_inner (t := t) (h := h) (i := i) (by rw [hpp]; first | omega | simp_all)
   have e : j = p.cs.length := by omega
   rw [e, List.take_length] at g1
   refine Bd.renL (S' := [none, obD 3 1 (dI (zs))]) [0, 1] (obn rfl) (by simp) [(6, ownD 1 (dI (zs)))] ⟨inv_own rfl, trivial⟩ (l2 rfl (obD_mI _)) ?_
   exact ⟨_, res_own rfl, _, by rw [hl, hpp, ← g1], by rw [hl, hpp, ← g1]⟩
theorem c_impl_leavesBelow (t : Pt) (hs : smallT t) : ∀ (h : Nat) (i : Int) (ys : List Int), wkT t h i = true → ys.length + (wlk t h i).length ≤ 1000000 → AppS prog 44 3 [ptP t, i64 i] ys (lvB t h i) := by
 intro h
 induction h with
 | zero => intro i ys hw; simp [wkT] at hw
 | succ h ih => intro i ys hw hb; exact c_impl_leavesBelow_step t hs i h ys hw hb ih
theorem sl_impl_LeavesOf : slimF prog 19 = some (10, (.seq (.reg 0 (.o 1 (.box 25 2 (.t 0)) (.o 2 (.mv (.c .nils)) .nil))) (.seq (.seq (.reg 0 (.o 3 (.load 2 true (.t 1)) (.o 4 (.call 31 [.t 3]) (.o 5 (.not (.t 4)) .nil)))) (.cond (.t 5) (.seq (.reg 0 (.o 2 (.mv (.c .nils)) .nil)) .ret) .skip)) (.seq (.reg 0 (.o 6 (.load 2 true (.t 1)) (.o 7 (.fld 0 1 false (.t 1)) (.o 8 (.load 1 false (.t 7)) (.o 9 (.call 44 [.t 6, .t 8, .c .nils]) (.o 2 (.mv (.t 9)) .nil)))))) .ret)), [.t 2])) := by kernel_rfl
theorem c_impl_LeavesOf (t : Pt) (hs : smallT t) : PCon prog 19 [ptP t] (fun p => p = ints (lvV t)) := by
 refine con_of_VS sl_impl_LeavesOf (by simp) (VS_seq (VS_r0 rfl (q_box rfl rfl rfl trivial (q_mv rfl (rg_nil (VS_seq (VS_seq (VS_r0 rfl (q_load_ra rfl rfl rfl rfl rfl (by (simp; done)) rfl (q_callp (c_impl_ValidTree t hs) rfl trivial (q_not rfl (rg_nil ?_))))))))))))
 refine VS_cond rfl (fun c0 => ?_) (fun c0 => ?_)
 ·try simp at c0
  refine VS_seq (VS_r0 rfl (q_mv rfl (rg_nil (VS_ret ?_))))
  have hv : validT t = false := by simpa using c0
  exact Bd.now ⟨_, rfl, by rw [lvV, hv]; rfl⟩
 ·try simp at c0
  have hv : validT t = true := by simpa using c0
  have hvf := valid_facts hv
  refine VS_skip (VS_seq (VS_r0 rfl (q_load_ra rfl rfl rfl rfl rfl (by (simp; done)) rfl (q_fld_r rfl (q_load_r rfl rfl rfl rfl rfl rfl rfl ?_)))))
  refine q_apps0 (zs := lvB t (hgtT t) t.r) rfl (c_impl_leavesBelow t hs (hgtT t) t.r [] hvf.wk (by have := hvf.n16; simp; omega)) (by repeat (first | exact trivial | refine ⟨.inl rfl, ?_⟩ | refine ⟨.inr ⟨_, rfl, rfl⟩, ?_⟩)) trivial ?_
  refine q_mv rfl (rg_nil (VS_ret (Bd.pureB 2 1 3 1 (xs := dI (lvB t (hgtT t) t.r)) rfl rfl (toPVs_dI _) ?_)))
  exact Bd.now ⟨_, rfl, by rw [lvV, if_pos hv]; rfl⟩
theorem sl_impl_pairsOfLeaf : slimF prog 51 = some (30, (.seq (.reg 0 (.o 1 (.box 33 3 (.t 0)) (.o 2 (.mv (.c .nils)) .nil))) (.seq (.reg 0 (.o 6 (.fld 0 1 false (.t 1)) (.o 7 (.load 1 false (.t 6)) (.o 8 (.len (.t 7)) (.o 9 (.mks 47 2 16 (.agg [.pv (.int .i64 0), .pv (.int .i64 0)]) (.t 8)) (.o 3 (.mv (.t 9)) .nil)))))) (.seq (.seq (.reg 0 (.o 10 (.fld 0 1 false (.t 1)) (.o 11 (.load 1 false (.t 10)) (.o 12 (.len (.t 11)) (.o 13 (.mv (.c (.pv (.int .i64 0)))) .nil))))) (.block 0 (.loop (.seq (.reg 0 (.o 14 (.bin .lss (.t 13) (.t 12)) .nil)) (.seq (.cond (.t 14) .skip (.exit 0)) (.seq (.block 1 (.seq (.reg 0 (.o 15 (.mv (.t 13)) (.o 16 (.idx 1 (.t 11) (.t 13)) (.o 17 (.load 1 false (.t 16)) (.o 4 (.mv (.t 15)) (.o 5 (.mv (.t 17)) .nil)))))) (.reg 0 (.o 18 (.mv (.t 3)) (.o 19 (.mv (.t 4)) (.o 20 (.mv (.t 5)) (.o 21 (.fld 2 1 false (.t 1)) (.o 22 (.load 1 false (.t 21)) (.o 23 (.mv (.t 4)) (.o 24 (.idx 1 (.t 22) (.t 23)) (.o 25 (.load 1 false (.t 24)) (.o 26 (.build [.pv (.int .i64 0), .pv (.int .i64 0)] [(0, (1, .t 20)), (1, (1, .t 25))]) (.o 27 (.idx 2 (.t 18) (.t 19)) (.op ⟨none, none, .store 2 (.t 27) (.t 26)⟩ .nil)))))))))))))) (.reg 0 (.o 28 (.bin .add (.t 13) (.c (.pv (.int .i64 1)))) (.o 13 (.mv (.t 28)) .nil))))))))) (.seq (.reg 0 (.o 29 (.mv (.t 3)) (.o 2 (.mv (.t 29)) .nil))) .ret))), [.t 2])) := by kernel_rfl
theorem c_impl_pairsOfLeaf (g : Pg) (hl : g.ks.length ≤ g.vs.length) (hk : g.ks.length ≤ 1000000) : PCon prog 51 [pgP g] (fun p => p = prs (rowG g)) := by
 refine con_of_VS sl_impl_pairsOfLeaf (by simp) (VS_seq (VS_r0 rfl (q_box rfl rfl rfl trivial (q_mv rfl (rg_nil (VS_seq (VS_r0 rfl (q_fld_r rfl (q_load_r rfl rfl rfl rfl rfl rfl rfl (q_len_m rfl (q_mks rfl ⟨by omega, by omega, by omega⟩ trivial (q_mv rfl (rg_nil (VS_seq (VS_seq ?_)))))))))))))))
 refine VS_r0 rfl (q_fld_r rfl (q_load_r rfl rfl rfl rfl rfl rfl rfl (q_len_m rfl (q_mv rfl (rg_nil (VS_block ?_))))))
 refine VS_bd (Bd.keepL [(1, .ptr 0 0 0), (3, .own 1 g.ks.length), (11, .pv (ints g.ks)), (12, .pv (i64 g.ks.length)), (13, .pv (i64 0))] ⟨rfl, rfl, rfl, rfl, rfl, trivial⟩ ?_)
 refine VS_loop (fun mz E S => ∃ i : Nat, ∃ ys : List (Int × Int), mz = g.ks.length - i ∧ (i ≤ g.ks.length) ∧ (ys.take i = rowTo g i) ∧ (ys.length = g.ks.length) ∧ E = env [(1, .ptr 0 0 0), (3, .own 1 g.ks.length), (11, .pv (ints g.ks)), (12, .pv (i64 g.ks.length)), (13, .pv (i64 i))] ∧ S = [some ⟨33, 3, [.pv (pgP g)]⟩, some ⟨47, 2, dQ ys⟩]) ⟨_, 0, List.replicate g.ks.length (0, 0), rfl, (by omega), rfl, (by simp), rfl, (l2 rfl (by simp))⟩ ?_
 rintro mz _ _ ⟨i, ys, hmeas, g0, g1, g2, rfl, rfl⟩
 refine VS_seq (VS_r0 rfl (q_lss rfl rfl (rg_nil (VS_seq ?_))))
 refine VS_cond rfl (fun c0 => ?_) (fun c0 => ?_)
 ·try simp at c0
  refine VS_skip (VS_seq (VS_block (VS_seq (VS_r0 rfl (q_mv rfl (q_idx_m (f := fun k => i64 k) (xs := g.ks) (n := (i : Int)) rfl rfl (by omega) (by omega) (fun _ => rfl) (q_load_c rfl rfl rfl (q_mv rfl (q_mv rfl (rg_nil (VS_r0 rfl (q_mv rfl (q_mv rfl (q_mv rfl (q_fld_r rfl ?_)))))))))))))))
  refine q_load_r rfl rfl rfl rfl rfl rfl rfl (q_mv rfl (q_idx_m (f := fun k => i64 k) (xs := g.vs) (n := (i : Int)) rfl rfl (by omega) (by omega) (fun _ => rfl) (q_load_c rfl rfl rfl (q_build rfl (q_idx_o rfl rfl (by omega) (by omega) rfl rfl (q_store_q (xs := ys) (nth g.ks i, nth g.vs i) rfl rfl rfl (by omega) trivial (rg_nil (VS_r0 rfl (q_add rfl rfl (inR64 (by omega)) (q_mv rfl (rg_nil ?_)))))))))))
  refine Bd.renL [0, 1] (zbn _) (by simp) [(1, .ptr 0 0 0), (3, .own 1 g.ks.length), (11, .pv (ints g.ks)), (12, .pv (i64 g.ks.length)), (13, .pv (i64 (i + 1)))] ⟨rfl, rfl, rfl, rfl, rfl, trivial⟩ (l2 rfl (mpO_Q _)) ⟨_, ?_, i + 1, ys.set i (nth g.ks i, nth g.vs i), rfl, ?_, ?_, ?_, rfl, rfl⟩
  ·omega
  ·omega
  ·exact row_step (by omega) g1
  ·simp; omega
 ·try simp at c0
  refine VS_exit (VS_seq (VS_r0 rfl (q_mv rfl (q_mv rfl (rg_nil (VS_ret ?_))))))
  have e : i = g.ks.length := by omega
  subst e
  rw [List.take_of_length_le (by omega)] at g1
  subst g1
  refine Bd.pureOB 2 1 rfl rfl (by simp [rowTo]) (toPVs_dQ _) ?_
  exact Bd.now ⟨_, rfl, rfl⟩
theorem sl_impl_PairsOf : slimF prog 26 = some (23, (.seq (.reg 0 (.o 1 (.box 25 2 (.t 0)) (.o 2 (.mv (.c .nils)) .nil))) (.seq (.reg 0 (.o 3 (.mv (.c .nils)) .nil)) (.seq (.seq (.reg 0 (.o 6 (.load 2 true (.t 1)) (.o 7 (.call 19 [.t 6]) (.o 8 (.len (.t 7)) (.o 9 (.mv (.c (.pv (.int .i64 0)))) .nil))))) (.block 0 (.loop (.seq (.reg 0 (.o 10 (.bin .lss (.t 9) (.t 8)) .nil)) (.seq (.cond (.t 10) .skip (.exit 0)) (.seq (.block 1 (.seq (.reg 0 (.o 11 (.idx 1 (.t 7) (.t 9)) (.o 12 (.load 1 false (.t 11)) (.o 5 (.mv (.t 12)) .nil)))) (.reg 0 (.o 13 (.mv (.t 3)) (.o 14 (.fld 1 1 false (.t 1)) (.o 15 (.load 1 false (.t 14)) (.o 16 (.mv (.t 5)) (.o 17 (.idx 3 (.t 15) (.t 16)) (.o 18 (.load 3 true (.t 17)) (.o 19 (.call 51 [.t 18]) (.o 20 (.app 47 2 16 (.t 13) (.t 19)) (.o 3 (.mv (.t 20)) .nil)))))))))))) (.reg 0 (.o 21 (.bin .add (.t 9) (.c (.pv (.int .i64 1)))) (.o 9 (.mv (.t 21)) .nil))))))))) (.seq (.reg 0 (.o 22 (.mv (.t 3)) (.o 2 (.mv (.t 22)) .nil))) .ret))), [.t 2])) := by kernel_rfl
theorem c_impl_PairsOf (t : Pt) (hs : smallT t) : PCon prog 26 [ptP t] (fun p => p = prs (prV t)) := by
 have hll := lvV_len (t := t)
 refine con_of_VS sl_impl_PairsOf (by simp) (VS_seq (VS_r0 rfl (q_box rfl rfl rfl trivial (q_mv rfl (rg_nil (VS_seq (VS_r0 rfl (q_mv rfl (rg_nil (VS_seq (VS_seq (VS_r0 rfl (q_load_ra rfl rfl rfl rfl rfl (by (simp; done)) rfl (q_callp (c_impl_LeavesOf t hs) rfl trivial (q_len_m rfl ?_)))))))))))))))
 refine q_mv rfl (rg_nil (VS_block ?_))
 refine VS_bd (Bd.pad ?_)
 refine VS_bd (Bd.keepL [(1, .ptr 0 0 0), (3, ownD 1 (dP ([]))), (7, .pv (ints (lvV t))), (8, .pv (i64 (lvV t).length)), (9, .pv (i64 0))] ⟨rfl, rfl, rfl, rfl, rfl, trivial⟩ ?_)
 refine VS_loop (fun mz E S => ∃ j : Nat, ∃ ys : List (Int × Int), mz = (lvV t).length - j ∧ (j ≤ (lvV t).length) ∧ (ys = ((lvV t).take j).flatMap fun i => rowG (pg t i)) ∧ E = env [(1, .ptr 0 0 0), (3, ownD 1 (dP ys)), (7, .pv (ints (lvV t))), (8, .pv (i64 (lvV t).length)), (9, .pv (i64 j))] ∧ S = [some ⟨25, 2, [.pv (ptP t)]⟩, obD 47 2 (dP ys)]) ⟨_, 0, [], rfl, (by omega), (by simp), rfl, rfl⟩ ?_
 rintro mz _ _ ⟨j, ys, hmeas, g0, g1, rfl, rfl⟩
 refine VS_seq (VS_r0 rfl (q_lss rfl rfl (rg_nil (VS_seq ?_))))
 refine VS_cond rfl (fun c0 => ?_) (fun c0 => ?_)
 ·try simp at c0
  have hat := lvV_at (t := t) (j := j) (by omega)
  have hat2 := hat.1
  have hrk : (nth t.ps (nth (lvV t) j).toNat).ks.length ≤ 4 := hat.2.2
  have hfp : _ + (rowG (nth t.ps (nth (lvV t) j).toNat)).length ≤ 64 := prV_part (t := t) (j := j) (by omega)
  have hyl : ys.length = (((lvV t).take j).flatMap fun i => rowG (pg t i)).length := by rw [g1]
  refine VS_skip (VS_seq (VS_block (VS_seq (VS_r0 rfl (q_idx_m (f := fun k => i64 k) (xs := lvV t) (n := (j : Int)) rfl rfl (by omega) (by omega) (fun _ => rfl) (q_load_c rfl rfl rfl (q_mv rfl (rg_nil (VS_r0 rfl (q_mv rfl (q_fld_r rfl (q_load_r rfl rfl rfl rfl rfl rfl rfl (q_mv rfl (q_idx_m (f := pgP) (xs := t.ps) (n := nth (lvV t) j) rfl rfl (by omega) (by omega) (fun _ => rfl) (q_load_c rfl rfl rfl ?_)))))))))))))))
  refine q_callp (c_impl_pairsOfLeaf (nth t.ps (nth (lvV t) j).toNat) hat.2.1 (by omega)) rfl trivial (q_app_dm (xs := ys) (ys := rowG (nth t.ps (nth (lvV t) j).toNat)) (f := fun k => .pv (pairP k)) rfl (elems_P _) (cell_P _) rfl ⟨by omega, by omega⟩ trivial (q_mv rfl (rg_nil (VS_r0 rfl (q_add rfl rfl (inR64 (by omega)) (q_mv rfl (rg_nil ?_)))))))
  refine Bd.renL [0, 2] (zbn _) (by simp) [(1, .ptr 0 0 0), (3, ownD 1 (dP (ys ++ rowG (nth t.ps (nth (lvV t) j).toNat)))), (7, .pv (ints (lvV t))), (8, .pv (i64 (lvV t).length)), (9, .pv (i64 (j + 1)))] ⟨rfl, inv_own rfl, rfl, rfl, rfl, trivial⟩ (l2 rfl (obD_mP _)) ⟨_, ?_, j + 1, ys ++ rowG (nth t.ps (nth (lvV t) j).toNat), rfl, ?_, ?_, rfl, rfl⟩
  ·omega
  ·omega
  ·rw [g1, flat_take (by omega)]
 ·try simp at c0
  refine VS_exit (VS_seq (VS_r0 rfl (q_mv rfl (q_mv rfl (rg_nil (VS_ret ?_))))))
  have e : j = (lvV t).length := by omega
  rw [e, List.take_length] at g1
  refine Bd.pureB 2 1 47 2 (xs := dP ys) rfl rfl (toPVs_dP _) ?_
  exact Bd.now ⟨_, rfl, by rw [g1, prV_flat]⟩
end Go.V
