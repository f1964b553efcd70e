/- A part of the proofs about laws of the page tree (see the text that bears the law): a small language of steps, its rules, and what the functions of the program return. -/
import Derived.Test.YtanckppjkbfbfaaWKbm
import Derived.Test.YtanckppjkbfbfaaQL
import Derived.Test.YtanckppjkbfbfaaWB
set_option linter.all false
set_option linter.unusedVariables false
set_option linter.unusedSimpArgs false
set_option maxHeartbeats 4000000
namespace Go.V
open Go.Proofs.Try (prog)
theorem zbn (os : List Nat) : ∀ i, i < 0 → os[i]? = some i := fun i hi => absurd hi (Nat.not_lt_zero i)
theorem obn {os : List Nat} (h : os[0]? = some 0) : ∀ i, i < 1 → os[i]? = some i := fun i hi => by
 have e : i = 0 := by omega
 subst e; exact h
set_option maxRecDepth 100000
theorem sl_impl_leavesBelow : slimF prog 44 = some (38, (.seq (.reg 0 (.o 3 (.box 25 2 (.t 0)) (.o 6 (.mv (.c .nils)) .nil))) (.seq (.seq (.reg 0 (.o 9 (.fld 1 1 false (.t 3)) (.o 10 (.load 1 false (.t 9)) (.o 11 (.mv (.t 1)) (.o 12 (.idx 3 (.t 10) (.t 11)) (.o 13 (.fld 1 1 false (.t 12)) (.o 14 (.load 1 false (.t 13)) (.o 15 (.len (.t 14)) (.o 16 (.bin .eql (.t 15) (.c (.pv (.int .i64 0)))) .nil))))))))) (.cond (.t 16) (.seq (.reg 0 (.o 17 (.mv (.t 2)) (.o 18 (.mv (.t 1)) (.o 19 (.lit 3 1 1 [.pv (.int .i64 0)] [(0, .t 18)]) (.o 20 (.app 3 1 8 (.t 17) (.t 19)) (.o 6 (.mv (.t 20)) .nil)))))) .ret) .skip)) (.seq (.seq (.reg 0 (.o 21 (.fld 1 1 false (.t 3)) (.o 22 (.load 1 false (.t 21)) (.o 23 (.mv (.t 1)) (.o 24 (.idx 3 (.t 22) (.t 23)) (.o 25 (.fld 1 1 false (.t 24)) (.o 26 (.load 1 false (.t 25)) (.o 27 (.len (.t 26)) (.o 28 (.mv (.c (.pv (.int .i64 0)))) .nil))))))))) (.block 0 (.loop (.seq (.reg 0 (.o 29 (.bin .lss (.t 28) (.t 27)) .nil)) (.seq (.cond (.t 29) .skip (.exit 0)) (.seq (.block 1 (.seq (.reg 0 (.o 30 (.idx 1 (.t 26) (.t 28)) (.o 31 (.load 1 false (.t 30)) (.o 8 (.mv (.t 31)) .nil)))) (.reg 0 (.o 32 (.load 2 true (.t 3)) (.o 33 (.mv (.t 8)) (.o 34 (.mv (.t 2)) (.o 35 (.call 44 [.t 32, .t 33, .t 34]) (.o 2 (.mv (.t 35)) .nil)))))))) (.reg 0 (.o 36 (.bin .add (.t 28) (.c (.pv (.int .i64 1)))) (.o 28 (.mv (.t 36)) .nil))))))))) (.seq (.reg 0 (.o 37 (.mv (.t 2)) (.o 6 (.mv (.t 37)) .nil))) .ret))), [.t 6])) := by kernel_rfl
theorem c_impl_leavesBelow_step (t : Pt) (hs : smallT t) (i : Int) (h : Nat) (ys : List Int) (hw : wkT t (h + 1) i = true) (hb : ys.length + (wlk t (h + 1) i).length ≤ 1000000) (ih : ∀ c ys, wkT t h c = true → ys.length + (wlk t h c).length ≤ 1000000 → AppS prog 44 3 [ptP t, i64 c] ys (lvB t h c)) : CallS prog 44 [.pv (ptP t), .pv (i64 i), ownD 0 (dI ys)] [obD 3 1 (dI ys)] (fun d S => ∃ T, d = ownD 1 (dI (ys ++ lvB t (h + 1) i)) ∧ S = none :: obD 3 1 (dI (ys ++ lvB t (h + 1) i)) :: T) := by
 have hw2 := wk_kid hw
 have hin := hw2.1
 have hi2 := inT_iff.1 hin
 have hsz := hs.2 i hi2.1 hi2.2
 obtain ⟨p, hp⟩ : ∃ p, nth t.ps i.toNat = p := ⟨_, rfl⟩
 have hpp : pg t i = p := hp
 rw [wlk_succ] at hb
 rw [hpp] at hsz hw2 hb
 rw [List.length_cons] at hb
 refine callS_of_VS sl_impl_leavesBelow (by simp) (VS_seq ?_)
 refine VS_bd (Bd.mv0 2 rfl ?_)
 refine VS_r0 rfl (q_box rfl rfl rfl trivial (q_mv rfl (rg_nil (VS_seq (VS_seq (VS_r0 rfl (q_fld_r rfl (q_load_r rfl rfl rfl rfl rfl rfl rfl (q_mv rfl (q_idx_m (f := pgP) (xs := t.ps) (n := i) rfl rfl (by omega) (by omega) (fun _ => rfl) ?_))))))))))
 rw [hp]
 refine q_fld_c rfl rfl (q_load_c rfl rfl rfl (q_len_m rfl (q_eql rfl rfl (rg_nil ?_))))
 refine VS_cond rfl (fun c0 => ?_) (fun c0 => ?_)
 ·try simp at c0
  refine VS_seq (VS_r0 rfl (q_mv rfl (q_mv rfl (q_lit (xs := [i64 i]) rfl rfl rfl rfl (q_app_dm (xs := ys) (ys := [i]) (f := fun k => .pv (i64 k)) rfl rfl rfl rfl ⟨by simp; omega, by simp; omega⟩ trivial (q_mv rfl (rg_nil (VS_ret ?_))))))))
  have hl := lvB_leaf (t := t) (h := h) (i := i) (by rw [hpp]; first | omega | simp_all)
  refine Bd.renL (S' := [none, obD 3 1 (dI (ys ++ [i]))]) [0, 3] (obn rfl) (by simp) [(6, ownD 1 (dI (ys ++ [i])))] ⟨inv_own rfl, trivial⟩ (l2 rfl (obD_mI _)) ?_
  exact ⟨_, res_own rfl, _, by rw [hl], by rw [hl]⟩
 ·try simp at c0
  refine VS_skip (VS_seq (VS_seq (VS_r0 rfl (q_fld_r rfl (q_load_r rfl rfl rfl rfl rfl rfl rfl (q_mv rfl (q_idx_m (f := pgP) (xs := t.ps) (n := i) rfl rfl (by omega) (by omega) (fun _ => rfl) ?_)))))))
  rw [hp]
  refine q_fld_c rfl rfl (q_load_c rfl rfl rfl (q_len_m rfl (q_mv rfl (rg_nil (VS_block ?_)))))
  refine VS_bd (Bd.keepL [(2, ownD 1 (dI ys)), (3, .ptr 2 0 0), (26, .pv (ints p.cs)), (27, .pv (i64 p.cs.length)), (28, .pv (i64 0))] ⟨rfl, rfl, rfl, rfl, rfl, trivial⟩ ?_)
  refine VS_loop (fun mz E S => ∃ j : Nat, ∃ zs : List Int, mz = p.cs.length - j ∧ (j ≤ p.cs.length) ∧ (zs = ys ++ (p.cs.take j).flatMap (lvB t h)) ∧ (zs.length ≤ ys.length + ((p.cs.take j).flatMap (wlk t h)).length) ∧ E = env [(2, ownD 1 (dI zs)), (3, .ptr 2 0 0), (26, .pv (ints p.cs)), (27, .pv (i64 p.cs.length)), (28, .pv (i64 j))] ∧ S = [none, obD 3 1 (dI zs), some ⟨25, 2, [.pv (ptP t)]⟩]) ⟨_, 0, ys, rfl, (by omega), (by simp), (by simp), rfl, rfl⟩ ?_
  rintro mz _ _ ⟨j, zs, hmeas, g0, g1, g2, rfl, rfl⟩
  refine VS_seq (VS_r0 rfl (q_lss rfl rfl (rg_nil (VS_seq ?_))))
  refine VS_cond rfl (fun c1 => ?_) (fun c1 => ?_)
  ·try simp at c1
   have hwp := wlk_part (t := t) (h := h) (cs := p.cs) (j := j) (by omega)
   have hlb := lvB_len (t := t) (h := h) (i := nth p.cs j)
   refine VS_skip (VS_seq (VS_block (VS_seq (VS_r0 rfl (q_idx_m (f := fun k => i64 k) (xs := p.cs) (n := (j : Int)) rfl rfl (by omega) (by omega) (fun _ => rfl) (q_load_c rfl rfl rfl (q_mv rfl (rg_nil (VS_r0 rfl (q_load_ra rfl rfl rfl rfl rfl (by (simp; done)) rfl (q_mv rfl (q_mv rfl ?_))))))))))))
   refine q_apps (o := 1) rfl (ih (nth p.cs j) zs (hw2.2 _ (nth_mem (by omega))) (by omega)) (by repeat (first | exact trivial | refine ⟨.inl rfl, ?_⟩ | refine ⟨.inr ⟨_, rfl, rfl⟩, ?_⟩)) rfl trivial ?_
   refine q_mv rfl (rg_nil (VS_r0 rfl (q_add rfl rfl (inR64 (by omega)) (q_mv rfl (rg_nil ?_)))))
   refine Bd.renL [0, 3, 2] (obn rfl) (by simp) [(2, ownD 1 (dI (zs ++ lvB t h (nth p.cs j)))), (3, .ptr 2 0 0), (26, .pv (ints p.cs)), (27, .pv (i64 p.cs.length)), (28, .pv (i64 (j + 1)))] ⟨inv_own rfl, rfl, rfl, rfl, rfl, trivial⟩ (l3 rfl (obD_mI _) rfl) ⟨_, ?_, j + 1, zs ++ lvB t h (nth p.cs j), rfl, ?_, ?_, ?_, rfl, rfl⟩
   ·omega
   ·omega
   ·rw [g1, flat_take (by omega), List.append_assoc]
   ·rw [flat_take (by omega), List.length_append, List.length_append]; omega
  ·try simp at c1
   refine VS_exit (VS_seq (VS_r0 rfl (q_mv rfl (q_mv rfl (rg_nil (VS_ret ?_))))))
   have hl := lvB_inner (t := t) (h := h) (i := i) (by rw [hpp]; first | omega | simp_all)
   have e : j = p.cs.length := by omega
   rw [e, List.take_length] at g1
   refine Bd.renL (S' := [none, obD 3 1 (dI (zs))]) [0, 1] (obn rfl) (by simp) [(6, ownD 1 (dI (zs)))] ⟨inv_own rfl, trivial⟩ (l2 rfl (obD_mI _)) ?_
   exact ⟨_, res_own rfl, _, by rw [hl, hpp, ← g1], by rw [hl, hpp, ← g1]⟩
theorem c_impl_leavesBelow (t : Pt) (hs : smallT t) : ∀ (h : Nat) (i : Int) (ys : List Int), wkT t h i = true → ys.length + (wlk t h i).length ≤ 1000000 → AppS prog 44 3 [ptP t, i64 i] ys (lvB t h i) := by
 intro h
 induction h with
 | zero => intro i ys hw; simp [wkT] at hw
 | succ h ih => intro i ys hw hb; exact c_impl_leavesBelow_step t hs i h ys hw hb ih
theorem sl_impl_LeavesOf : slimF prog 19 = some (10, (.seq (.reg 0 (.o 1 (.box 25 2 (.t 0)) (.o 2 (.mv (.c .nils)) .nil))) (.seq (.seq (.reg 0 (.o 3 (.load 2 true (.t 1)) (.o 4 (.call 31 [.t 3]) (.o 5 (.not (.t 4)) .nil)))) (.cond (.t 5) (.seq (.reg 0 (.o 2 (.mv (.c .nils)) .nil)) .ret) .skip)) (.seq (.reg 0 (.o 6 (.load 2 true (.t 1)) (.o 7 (.fld 0 1 false (.t 1)) (.o 8 (.load 1 false (.t 7)) (.o 9 (.call 44 [.t 6, .t 8, .c .nils]) (.o 2 (.mv (.t 9)) .nil)))))) .ret)), [.t 2])) := by kernel_rfl
theorem c_impl_LeavesOf (t : Pt) (hs : smallT t) : PCon prog 19 [ptP t] (fun p => p = ints (lvV t)) := by
 refine con_of_VS sl_impl_LeavesOf (by simp) (VS_seq (VS_r0 rfl (q_box rfl rfl rfl trivial (q_mv rfl (rg_nil (VS_seq (VS_seq (VS_r0 rfl (q_load_ra rfl rfl rfl rfl rfl (by (simp; done)) rfl (q_callp (c_impl_ValidTree t hs) rfl trivial (q_not rfl (rg_nil ?_))))))))))))
 refine VS_cond rfl (fun c0 => ?_) (fun c0 => ?_)
 ·try simp at c0
  refine VS_seq (VS_r0 rfl (q_mv rfl (rg_nil (VS_ret ?_))))
  have hv : validT t = false := by simpa using c0
  exact Bd.now ⟨_, rfl, by rw [lvV, hv]; rfl⟩
 ·try simp at c0
  have hv : validT t = true := by simpa using c0
  have hvf := valid_facts hv
  refine VS_skip (VS_seq (VS_r0 rfl (q_load_ra rfl rfl rfl rfl rfl (by (simp; done)) rfl (q_fld_r rfl (q_load_r rfl rfl rfl rfl rfl rfl rfl ?_)))))
  refine q_apps0 (zs := lvB t (hgtT t) t.r) rfl (c_impl_leavesBelow t hs (hgtT t) t.r [] hvf.wk (by have := hvf.n16; simp; omega)) (by repeat (first | exact trivial | refine ⟨.inl rfl, ?_⟩ | refine ⟨.inr ⟨_, rfl, rfl⟩, ?_⟩)) trivial ?_
  refine q_mv rfl (rg_nil (VS_ret (Bd.pureB 2 1 3 1 (xs := dI (lvB t (hgtT t) t.r)) rfl rfl (toPVs_dI _) ?_)))
  exact Bd.now ⟨_, rfl, by rw [lvV, if_pos hv]; rfl⟩
theorem sl_spec_DrawLeavesOf : slimF prog 20 = some (6, (.seq (.reg 0 (.o 2 (.alloc 25 2 (.agg [.pv (.int .i64 0), .nils])) .nil)) (.seq (.reg 0 (.o 3 (.mv (.t 0)) (.o 4 (.call 36 [.t 3]) (.o 5 (.call 37 [.t 4]) (.op ⟨none, none, .store 2 (.t 2) (.t 5)⟩ .nil))))) .ret), [.c 2 2])) := by kernel_rfl
theorem c_spec_DrawLeavesOf (bs : List Int) (hb : isU8 bs) (hl : bs.length ≤ 1048576) : PCon prog 20 [u8s bs] (fun p => ∃ t : Pt, p = ptP t ∧ AnyT t) := by
 refine con_of_VS sl_spec_DrawLeavesOf (by simp) (VS_seq (VS_r0 rfl (q_alloc trivial (rg_nil (VS_seq (VS_r0 rfl (q_mv rfl ?_)))))))
 refine q_newRd rfl (c_spec_newReader _ hb hl) rfl (fun _ => trivial) ?_
 rintro bs ⟨hb, hbl⟩
 refine q_rd rfl (c_spec_anyTree bs hb hbl _ (by omega) (by omega)) rfl rfl (fun _ => trivial) ?_
 rintro _ q5 ⟨t, rfl, ha, hq1, hq2⟩
 refine q_store rfl rfl rfl rfl rfl rfl ⟨rfl, rfl, by simp, rfl, by simp [isOne]⟩ rfl trivial (rg_nil (VS_ret ?_))
 exact Bd.now ⟨_, rfl, t, rfl, ha⟩
theorem sl_spec_LeavesOf : slimF prog 21 = some (8, (.seq (.reg 0 (.o 1 (.box 25 2 (.t 0)) (.o 2 (.mv (.c .nils)) .nil))) (.seq (.seq (.reg 0 (.o 3 (.load 2 true (.t 1)) (.o 4 (.call 42 [.t 3]) (.o 5 (.not (.t 4)) .nil)))) (.cond (.t 5) (.seq (.reg 0 (.o 2 (.mv (.c .nils)) .nil)) .ret) .skip)) (.seq (.reg 0 (.o 6 (.load 2 true (.t 1)) (.o 7 (.call 45 [.t 6]) (.o 2 (.mv (.t 7)) .nil)))) .ret)), [.t 2])) := by kernel_rfl
theorem c_spec_LeavesOf (t : Pt) (hs : smallT t) : PCon prog 21 [ptP t] (fun p => p = ints (lvV t)) := by
 refine con_of_VS sl_spec_LeavesOf (by simp) (VS_seq (VS_r0 rfl (q_box rfl rfl rfl trivial (q_mv rfl (rg_nil (VS_seq (VS_seq (VS_r0 rfl (q_load_ra rfl rfl rfl rfl rfl (by (simp; done)) rfl (q_callp (c_spec_validTree t hs) rfl trivial (q_not rfl (rg_nil ?_))))))))))))
 refine VS_cond rfl (fun c0 => ?_) (fun c0 => ?_)
 ·try simp at c0
  have hv : validT t = false := by simpa using c0
  refine VS_seq (VS_r0 rfl (q_mv rfl (rg_nil (VS_ret ?_))))
  exact Bd.now ⟨_, rfl, by rw [lvV, hv]; rfl⟩
 ·try simp at c0
  have hv : validT t = true := by simpa using c0
  have hvf := valid_facts hv
  refine VS_skip (VS_seq (VS_r0 rfl (q_load_ra rfl rfl rfl rfl rfl (by (simp; done)) rfl (q_callp ((c_spec_leavesOf t hs (hgtT t) hvf.wk (by have := hvf.n16; omega)).to (y := ints (lvV t)) (by rw [lvV, if_pos hv])) rfl trivial (q_mv rfl (rg_nil (VS_ret ?_)))))))
  exact Bd.now ⟨_, rfl, rfl⟩
theorem sl_impl_insideOf : slimF prog 41 = some (8, (.seq (.reg 0 (.o 1 (.box 33 3 (.t 0)) (.o 2 (.alloc 55 2 (.agg [.nils, .nils])) .nil))) (.seq (.reg 0 (.o 3 (.fld 0 1 false (.t 1)) (.o 4 (.load 1 false (.t 3)) (.o 5 (.fld 1 1 false (.t 1)) (.o 6 (.load 1 false (.t 5)) (.o 7 (.build [.nils, .nils] [(0, (1, .t 4)), (1, (1, .t 6))]) (.op ⟨none, none, .store 2 (.t 2) (.t 7)⟩ .nil))))))) .ret), [.c 2 2])) := by kernel_rfl
theorem c_impl_insideOf (g : Pg) : PCon prog 41 [pgP g] (fun p => p = innP g.ks g.cs) := by
 refine con_of_VS sl_impl_insideOf (by simp) (VS_seq (VS_r0 rfl (q_box rfl rfl rfl trivial (q_alloc trivial (rg_nil (VS_seq (VS_r0 rfl (q_fld_r rfl (q_load_r rfl rfl rfl rfl rfl rfl rfl (q_fld_r rfl (q_load_r rfl rfl rfl rfl rfl rfl rfl (q_build rfl (q_store rfl rfl rfl rfl rfl rfl ⟨rfl, rfl, by simp, rfl, by simp [isOne]⟩ rfl trivial (rg_nil (VS_ret ?_)))))))))))))))
 exact Bd.now ⟨_, rfl, rfl⟩
theorem sl_impl_PathTo : slimF prog 15 = some (35, (.seq (.reg 0 (.o 2 (.box 25 2 (.t 0)) (.o 4 (.mv (.c .nils)) .nil))) (.seq (.seq (.reg 0 (.o 7 (.load 2 true (.t 2)) (.o 8 (.call 31 [.t 7]) (.o 9 (.not (.t 8)) .nil)))) (.cond (.t 9) (.seq (.reg 0 (.o 4 (.mv (.c .nils)) .nil)) .ret) .skip)) (.seq (.reg 0 (.o 10 (.fld 0 1 false (.t 2)) (.o 11 (.load 1 false (.t 10)) (.o 5 (.mv (.t 11)) .nil)))) (.seq (.reg 0 (.o 12 (.mv (.t 5)) (.o 13 (.lit 3 1 1 [.pv (.int .i64 0)] [(0, .t 12)]) (.o 6 (.mv (.t 13)) .nil)))) (.seq (.block 0 (.loop (.seq (.seq (.reg 0 (.o 14 (.fld 1 1 false (.t 2)) (.o 15 (.load 1 false (.t 14)) (.o 16 (.mv (.t 5)) (.o 17 (.idx 3 (.t 15) (.t 16)) (.o 18 (.fld 1 1 false (.t 17)) (.o 19 (.load 1 false (.t 18)) (.o 20 (.len (.t 19)) (.o 21 (.bin .gtr (.t 20) (.c (.pv (.int .i64 0)))) .nil))))))))) (.cond (.t 21) .skip (.exit 0))) (.block 1 (.seq (.reg 0 (.o 22 (.fld 1 1 false (.t 2)) (.o 23 (.load 1 false (.t 22)) (.o 24 (.mv (.t 5)) (.o 25 (.idx 3 (.t 23) (.t 24)) (.o 26 (.load 3 true (.t 25)) (.o 27 (.call 41 [.t 26]) (.o 28 (.mv (.t 1)) (.o 29 (.call 40 [.t 27, .t 28]) (.o 5 (.mv (.t 29)) .nil)))))))))) (.reg 0 (.o 30 (.mv (.t 6)) (.o 31 (.mv (.t 5)) (.o 32 (.lit 3 1 1 [.pv (.int .i64 0)] [(0, .t 31)]) (.o 33 (.app 3 1 8 (.t 30) (.t 32)) (.o 6 (.mv (.t 33)) .nil))))))))))) (.seq (.reg 0 (.o 34 (.mv (.t 6)) (.o 4 (.mv (.t 34)) .nil))) .ret))))), [.t 4])) := by kernel_rfl
theorem c_impl_PathTo (t : Pt) (hs : smallT t) (k : Int) : PCon prog 15 [ptP t, i64 k] (fun p => p = ints (if validT t then pthT t k else [])) := by
 refine con_of_VS sl_impl_PathTo (by simp) (VS_seq (VS_r0 rfl (q_box rfl rfl rfl trivial (q_mv rfl (rg_nil (VS_seq (VS_seq (VS_r0 rfl (q_load_ra rfl rfl rfl rfl rfl (by (simp; done)) rfl (q_callp (c_impl_ValidTree t hs) rfl trivial (q_not rfl (rg_nil ?_))))))))))))
 refine VS_cond rfl (fun c0 => ?_) (fun c0 => ?_)
 ·try simp at c0
  have hv : validT t = false := by simpa using c0
  refine VS_seq (VS_r0 rfl (q_mv rfl (rg_nil (VS_ret ?_))))
  exact Bd.now ⟨_, rfl, by rw [hv]; rfl⟩
 ·try simp at c0
  have hv : validT t = true := by simpa using c0
  have hok := (valid_ok hv).2.2.1
  have hh3 := (valid_ok hv).2.1
  refine VS_skip (VS_seq (VS_r0 rfl (q_fld_r rfl (q_load_r rfl rfl rfl rfl rfl rfl rfl (q_mv rfl (rg_nil (VS_seq (VS_r0 rfl (q_mv rfl (q_lito (xs := [i64 t.r]) rfl rfl rfl rfl (q_mv rfl (rg_nil (VS_seq (VS_block ?_))))))))))))))
  refine VS_bd (Bd.keepL [(1, .pv (i64 k)), (2, .ptr 0 0 0), (5, .pv (i64 (t.r))), (6, ownD 1 (dI (([]) ++ [(t.r)])))] ⟨rfl, rfl, rfl, rfl, trivial⟩ ?_)
  refine VS_loop (fun mz E S => ∃ m : Nat, ∃ i : Int, ∃ zs : List Int, mz = m ∧ (∃ lo hi, okT t m i lo hi = true) ∧ (pth t k (hgtT t) t.r = zs ++ pth t k m i) ∧ (zs.length + m ≤ 3) ∧ E = env [(1, .pv (i64 k)), (2, .ptr 0 0 0), (5, .pv (i64 i)), (6, ownD 1 (dI (zs ++ [i])))] ∧ S = [some ⟨25, 2, [.pv (ptP t)]⟩, obD 3 1 (dI (zs ++ [i]))]) ⟨_, hgtT t, t.r, [], rfl, ⟨0, 100, hok⟩, rfl, (by simp; omega), rfl, rfl⟩ ?_
  rintro mz _ _ ⟨m, i, zs, hmeas, gm, g1, g2, rfl, rfl⟩
  have hi2 := inT_iff.1 (okT_top (Classical.choose_spec (Classical.choose_spec gm))).2.1
  have hml := (okT_top (Classical.choose_spec (Classical.choose_spec gm))).1
  refine VS_seq (VS_seq (VS_r0 rfl (q_fld_r rfl (q_load_r rfl rfl rfl rfl rfl rfl rfl (q_mv rfl (q_idx_m (f := pgP) (xs := t.ps) (n := i) rfl rfl (by omega) (by omega) (fun _ => rfl) (q_fld_c rfl rfl (q_load_c rfl rfl rfl (q_len_m rfl (q_gtr rfl rfl (rg_nil ?_)))))))))))
  refine VS_cond rfl (fun c1 => ?_) (fun c1 => ?_)
  ·try simp at c1
   have hsz := hs.2 i hi2.1 hi2.2
   have hm2 := Classical.choose_spec (Classical.choose_spec gm)
   obtain ⟨m2, rfl⟩ : ∃ m2, m = m2 + 1 := ⟨m - 1, by have := (okT_top hm2).1; omega⟩
   have hc0 : 0 < (pg t i).cs.length := by first | exact c1 | omega | (exact List.length_pos_iff.2 c1) | (simp at c1; omega)
   have hm0 : m2 ≠ 0 := fun e => by subst e; have := (okT_leaf.1 hm2).2; omega
   have hm3 := (okT_inner hm0).1 hm2
   have hfi := fill_inner hm3.1.2.1 (by omega)
   have hfj : (nth t.ps i.toNat).cs.length = (nth t.ps i.toNat).ks.length + 1 := hfi.1
   have hfk : (nth t.ps i.toNat).ks.length ≤ 4 := hfi.2.2.1
   have hfl : (pg t i).cs.length = (nth t.ps i.toNat).cs.length := rfl
   have hgi : goodInner (nth t.ps i.toNat).ks (nth t.ps i.toNat).cs = true := inner_good hv (inT_iff.2 hi2) (by omega)
   have hut := upTo_le (nth t.ps i.toNat).ks k
   refine VS_skip (VS_block (VS_seq (VS_r0 rfl (q_fld_r rfl (q_load_r rfl rfl rfl rfl rfl rfl rfl (q_mv rfl (q_idx_m (f := pgP) (xs := t.ps) (n := i) rfl rfl (by omega) (by omega) (fun _ => rfl) (q_load_c rfl rfl rfl (q_callp (c_impl_insideOf (nth t.ps i.toNat)) rfl trivial (q_mv rfl (q_callp ((c_impl_RouteKey (nth t.ps i.toNat).ks (nth t.ps i.toNat).cs k (by omega) (by omega)).to (y := i64 (nth (nth t.ps i.toNat).cs (upTo (nth t.ps i.toNat).ks k))) (by rw [if_pos hgi])) rfl trivial (q_mv rfl (rg_nil (VS_r0 rfl (q_mv rfl ?_)))))))))))))))
   refine q_mv rfl (q_lit (xs := [i64 (nth (nth t.ps i.toNat).cs (upTo (nth t.ps i.toNat).ks k))]) rfl rfl rfl rfl (q_app_dm (xs := zs ++ [i]) (ys := [nth (nth t.ps i.toNat).cs (upTo (nth t.ps i.toNat).ks k)]) (f := fun k => .pv (i64 k)) rfl rfl rfl rfl ⟨by simp; omega, by simp; omega⟩ trivial (q_mv rfl (rg_nil ?_))))
   refine Bd.renL [0, 2] (zbn _) (by simp) [(1, .pv (i64 k)), (2, .ptr 0 0 0), (5, .pv (i64 ((nth (nth t.ps i.toNat).cs (upTo (nth t.ps i.toNat).ks k))))), (6, ownD 1 (dI (((zs ++ [i])) ++ [((nth (nth t.ps i.toNat).cs (upTo (nth t.ps i.toNat).ks k)))])))] ⟨rfl, rfl, rfl, inv_own rfl, trivial⟩ (l2 rfl (obD_mI _)) ⟨_, ?_, m2, (nth (nth t.ps i.toNat).cs (upTo (nth t.ps i.toNat).ks k)), (zs ++ [i]), rfl, ?_, ?_, ?_, rfl, rfl⟩
   ·omega
   ·exact ⟨_, _, hm3.2.2 _ (by omega)⟩
   ·rw [g1, pth_inner (by omega), List.append_assoc]; rfl
   ·simp; omega
  ·try simp at c1
   refine VS_exit (VS_seq (VS_r0 rfl (q_mv rfl (q_mv rfl (rg_nil (VS_ret ?_))))))
   have hc1 : (pg t i).cs.length = 0 := by first | omega | simp_all
   obtain ⟨m2, rfl⟩ : ∃ m2, m = m2 + 1 := ⟨m - 1, by omega⟩
   refine Bd.pureB 4 1 3 1 (xs := dI (zs ++ [i])) rfl rfl (toPVs_dI _) ?_
   exact Bd.now ⟨_, rfl, by rw [if_pos hv, pthT, g1, pth_leaf hc1]⟩
end Go.V
