/- A part of the proofs about laws of the page tree (see the text that bears the law): a small language of steps, its rules, and what the functions of the program return. -/
import Derived.Test.YtnnmedfjjkmbaaaWG
import Derived.Test.YtnnmedfjjkmbaaaLH
set_option linter.all false
set_option linter.unusedVariables false
set_option linter.unusedSimpArgs false
set_option maxHeartbeats 4000000
namespace Go.V
open Go.Proofs.Try (prog)
set_option maxRecDepth 100000
theorem sl_impl_leavesBelow : slimF prog 74 = some (38, (.seq (.reg 0 (.op ⟨some 3, none, .box 53 2 (.t 0)⟩ (.op ⟨some 6, none, .mv (.c .nils)⟩ .nil))) (.seq (.seq (.reg 0 (.op ⟨some 9, none, .fld 1 1 false (.t 3)⟩ (.op ⟨some 10, none, .load 1 false (.t 9)⟩ (.op ⟨some 11, none, .mv (.t 1)⟩ (.op ⟨some 12, none, .idx 3 (.t 10) (.t 11)⟩ (.op ⟨some 13, none, .fld 1 1 false (.t 12)⟩ (.op ⟨some 14, none, .load 1 false (.t 13)⟩ (.op ⟨some 15, none, .len (.t 14)⟩ (.op ⟨some 16, none, .bin .eql (.t 15) (.c (.pv (.int .i64 0)))⟩ .nil))))))))) (.cond (.t 16) (.seq (.reg 0 (.op ⟨some 17, none, .mv (.t 2)⟩ (.op ⟨some 18, none, .mv (.t 1)⟩ (.op ⟨some 19, none, .lit 3 1 1 [.pv (.int .i64 0)] [(0, .t 18)]⟩ (.op ⟨some 20, none, .app 3 1 8 (.t 17) (.t 19)⟩ (.op ⟨some 6, none, .mv (.t 20)⟩ .nil)))))) .ret) .skip)) (.seq (.seq (.reg 0 (.op ⟨some 21, none, .fld 1 1 false (.t 3)⟩ (.op ⟨some 22, none, .load 1 false (.t 21)⟩ (.op ⟨some 23, none, .mv (.t 1)⟩ (.op ⟨some 24, none, .idx 3 (.t 22) (.t 23)⟩ (.op ⟨some 25, none, .fld 1 1 false (.t 24)⟩ (.op ⟨some 26, none, .load 1 false (.t 25)⟩ (.op ⟨some 27, none, .len (.t 26)⟩ (.op ⟨some 28, none, .mv (.c (.pv (.int .i64 0)))⟩ .nil))))))))) (.block 0 (.loop (.seq (.reg 0 (.op ⟨some 29, none, .bin .lss (.t 28) (.t 27)⟩ .nil)) (.seq (.cond (.t 29) .skip (.exit 0)) (.seq (.block 1 (.seq (.reg 0 (.op ⟨some 30, none, .idx 1 (.t 26) (.t 28)⟩ (.op ⟨some 31, none, .load 1 false (.t 30)⟩ (.op ⟨some 8, none, .mv (.t 31)⟩ .nil)))) (.reg 0 (.op ⟨some 32, none, .load 2 true (.t 3)⟩ (.op ⟨some 33, none, .mv (.t 8)⟩ (.op ⟨some 34, none, .mv (.t 2)⟩ (.op ⟨some 35, none, .call 74 [.t 32, .t 33, .t 34]⟩ (.op ⟨some 2, none, .mv (.t 35)⟩ .nil)))))))) (.reg 0 (.op ⟨some 36, none, .bin .add (.t 28) (.c (.pv (.int .i64 1)))⟩ (.op ⟨some 28, none, .mv (.t 36)⟩ .nil))))))))) (.seq (.reg 0 (.op ⟨some 37, none, .mv (.t 2)⟩ (.op ⟨some 6, none, .mv (.t 37)⟩ .nil))) .ret))), [.t 6])) := by kernel_rfl
theorem c_impl_leavesBelow_step (t : Pt) (hs : smallT t) (i : Int) (h : Nat) (ys : List Int) (hw : wkT t (h + 1) i = true) (hb : ys.length + (wlk t (h + 1) i).length ≤ 1000000) (ih : ∀ c ys, wkT t h c = true → ys.length + (wlk t h c).length ≤ 1000000 → AppS prog 74 3 [ptP t, i64 c] ys (lvB t h c)) : CallS prog 74 [.pv (ptP t), .pv (i64 i), ownD 0 (dI ys)] [obD 3 1 (dI ys)] (fun d S => ∃ T, d = ownD 1 (dI (ys ++ lvB t (h + 1) i)) ∧ S = none :: obD 3 1 (dI (ys ++ lvB t (h + 1) i)) :: T) := by
  have hw2 := wk_kid hw
  have hin := hw2.1
  have hi2 := inT_iff.1 hin
  have hsz := hs.2 i hi2.1 hi2.2
  obtain ⟨p, hp⟩ : ∃ p, nth t.ps i.toNat = p := ⟨_, rfl⟩
  have hpp : pg t i = p := hp
  rw [wlk_succ] at hb
  rw [hpp] at hsz hw2 hb
  rw [List.length_cons] at hb
  refine callS_of_VS sl_impl_leavesBelow (by simp) ?_
  refine VS_seq ?_
  refine VS_bd (Bd.mv0 2 rfl ?_)
  refine VS_r0 rfl ?_
  refine q_box rfl rfl rfl trivial ?_
  refine q_mv rfl ?_
  refine rg_nil ?_
  refine VS_seq ?_
  refine VS_seq ?_
  refine VS_r0 rfl ?_
  first | refine q_fld_r rfl ?_ | refine q_fld_c rfl rfl ?_
  first | refine q_load_c rfl rfl rfl ?_ | refine q_load_r rfl rfl rfl rfl rfl rfl rfl ?_ | refine q_load_o rfl rfl rfl rfl rfl ?_
  refine q_mv rfl ?_
  refine q_idx_m (f := pgP) (xs := t.ps) (n := i) rfl rfl (by omega) (by omega) (fun _ => rfl) ?_
  rw [hp]
  first | refine q_fld_r rfl ?_ | refine q_fld_c rfl rfl ?_
  first | refine q_load_c rfl rfl rfl ?_ | refine q_load_r rfl rfl rfl rfl rfl rfl rfl ?_ | refine q_load_o rfl rfl rfl rfl rfl ?_
  first | refine q_len_m rfl ?_ | refine q_len_s rfl ?_ | refine q_len_o rfl ?_ | refine q_len_n rfl ?_ | refine q_len_x rfl ?_
  refine q_eql rfl rfl ?_
  refine rg_nil ?_
  refine VS_cond rfl (fun c0 => ?_) (fun c0 => ?_)
  · try simp at c0
    refine VS_seq ?_
    refine VS_r0 rfl ?_
    refine q_mv rfl ?_
    refine q_mv rfl ?_
    refine q_lit (xs := [i64 i]) rfl rfl rfl rfl ?_
    refine q_app_dm (xs := ys) (ys := [i]) (f := fun k => .pv (i64 k)) rfl rfl rfl rfl ⟨by simp; omega, by simp; omega⟩ trivial ?_
    refine q_mv rfl ?_
    refine rg_nil ?_
    refine VS_ret ?_
    have hl := lvB_leaf (t := t) (h := h) (i := i) (by rw [hpp]; first | omega | simp_all)
    refine Bd.renL (S' := [none, obD 3 1 (dI (ys ++ [i]))]) [0, 3] (fun i hi => by have e : i = 0 := (by simp at hi; omega); subst e; rfl) (by simp) [(6, ownD 1 (dI (ys ++ [i])))] ⟨inv_own rfl, trivial⟩ (l2 rfl (obD_mI _)) ?_
    exact ⟨_, res_own rfl, _, by rw [hl], by rw [hl]⟩
  · try simp at c0
    refine VS_skip ?_
    refine VS_seq ?_
    refine VS_seq ?_
    refine VS_r0 rfl ?_
    first | refine q_fld_r rfl ?_ | refine q_fld_c rfl rfl ?_
    first | refine q_load_c rfl rfl rfl ?_ | refine q_load_r rfl rfl rfl rfl rfl rfl rfl ?_ | refine q_load_o rfl rfl rfl rfl rfl ?_
    refine q_mv rfl ?_
    refine q_idx_m (f := pgP) (xs := t.ps) (n := i) rfl rfl (by omega) (by omega) (fun _ => rfl) ?_
    rw [hp]
    first | refine q_fld_r rfl ?_ | refine q_fld_c rfl rfl ?_
    first | refine q_load_c rfl rfl rfl ?_ | refine q_load_r rfl rfl rfl rfl rfl rfl rfl ?_ | refine q_load_o rfl rfl rfl rfl rfl ?_
    first | refine q_len_m rfl ?_ | refine q_len_s rfl ?_ | refine q_len_o rfl ?_ | refine q_len_n rfl ?_ | refine q_len_x rfl ?_
    refine q_mv rfl ?_
    refine rg_nil ?_
    refine VS_block ?_
    refine VS_bd (Bd.keepL [(2, ownD 1 (dI ys)), (3, .ptr 2 0 0), (26, .pv (ints p.cs)), (27, .pv (i64 p.cs.length)), (28, .pv (i64 0))] ⟨rfl, rfl, rfl, rfl, rfl, trivial⟩ ?_)
    refine VS_loop (fun mz E S => ∃ j : Nat, ∃ zs : List Int, mz = p.cs.length - j ∧ (j ≤ p.cs.length) ∧ (zs = ys ++ (p.cs.take j).flatMap (lvB t h)) ∧ (zs.length ≤ ys.length + ((p.cs.take j).flatMap (wlk t h)).length) ∧ E = env [(2, ownD 1 (dI zs)), (3, .ptr 2 0 0), (26, .pv (ints p.cs)), (27, .pv (i64 p.cs.length)), (28, .pv (i64 j))] ∧ S = [none, obD 3 1 (dI zs), some ⟨53, 2, [.pv (ptP t)]⟩]) ⟨_, 0, ys, rfl, (by first | omega | (intros; omega) | simp), (by simp), (by simp), rfl, rfl⟩ ?_
    rintro mz _ _ ⟨j, zs, hmeas, g0, g1, g2, rfl, rfl⟩
    refine VS_seq ?_
    refine VS_r0 rfl ?_
    refine q_lss rfl rfl ?_
    refine rg_nil ?_
    refine VS_seq ?_
    refine VS_cond rfl (fun c1 => ?_) (fun c1 => ?_)
    · try simp at c1
      have hwp := wlk_part (t := t) (h := h) (cs := p.cs) (j := j) (by omega)
      have hlb := lvB_len (t := t) (h := h) (i := nth p.cs j)
      refine VS_skip ?_
      refine VS_seq ?_
      refine VS_block ?_
      refine VS_seq ?_
      refine VS_r0 rfl ?_
      refine q_idx_m (f := fun k => i64 k) (xs := p.cs) (n := (j : Int)) rfl rfl (by omega) (by omega) (fun _ => rfl) ?_
      first | refine q_load_c rfl rfl rfl ?_ | refine q_load_r rfl rfl rfl rfl rfl rfl rfl ?_ | refine q_load_o rfl rfl rfl rfl rfl ?_
      refine q_mv rfl ?_
      refine rg_nil ?_
      refine VS_r0 rfl ?_
      first | refine q_load_c rfl rfl rfl ?_ | refine q_load_ra rfl rfl rfl rfl rfl (by first | (simp; done) | (simp [setAt]; done)) rfl ?_
      refine q_mv rfl ?_
      refine q_mv rfl ?_
      refine q_apps (o := 1) rfl (ih (nth p.cs j) zs (hw2.2 _ (nth_mem (by omega))) (by omega)) (by repeat (first | exact trivial | refine ⟨.inl rfl, ?_⟩ | refine ⟨.inr ⟨_, rfl, rfl⟩, ?_⟩)) rfl trivial ?_
      refine q_mv rfl ?_
      refine rg_nil ?_
      refine VS_r0 rfl ?_
      refine q_add rfl rfl (inR64 (by omega)) ?_
      refine q_mv rfl ?_
      refine rg_nil ?_
      refine Bd.renL [0, 3, 2] (fun i hi => by first | (exact absurd hi (Nat.not_lt_zero i)) | (have e : i = 0 := (by simp at hi; omega); subst e; rfl) | (have e : i = 0 ∨ i = 1 := (by simp at hi; omega); rcases e with rfl | rfl <;> rfl)) (by simp) [(2, ownD 1 (dI (zs ++ lvB t h (nth p.cs j)))), (3, .ptr 2 0 0), (26, .pv (ints p.cs)), (27, .pv (i64 p.cs.length)), (28, .pv (i64 (j + 1)))] ⟨inv_own rfl, rfl, rfl, rfl, rfl, trivial⟩ (l3 rfl (obD_mI _) rfl) ⟨_, ?_, j + 1, zs ++ lvB t h (nth p.cs j), rfl, ?_, ?_, ?_, rfl, rfl⟩
      · first | omega | assumption | rfl | (simp; omega)
      · first | omega | assumption | rfl | (simp; omega)
      · rw [g1, flat_take (by omega), List.append_assoc]
      · rw [flat_take (by omega), List.length_append, List.length_append]; omega
    · try simp at c1
      refine VS_exit ?_
      refine VS_seq ?_
      refine VS_r0 rfl ?_
      refine q_mv rfl ?_
      refine q_mv rfl ?_
      refine rg_nil ?_
      refine VS_ret ?_
      have hl := lvB_inner (t := t) (h := h) (i := i) (by rw [hpp]; first | omega | simp_all)
      have e : j = p.cs.length := by omega
      rw [e, List.take_length] at g1
      refine Bd.renL (S' := [none, obD 3 1 (dI (zs))]) [0, 1] (fun i hi => by have e : i = 0 := (by simp at hi; omega); subst e; rfl) (by simp) [(6, ownD 1 (dI (zs)))] ⟨inv_own rfl, trivial⟩ (l2 rfl (obD_mI _)) ?_
      exact ⟨_, res_own rfl, _, by rw [hl, hpp, ← g1], by rw [hl, hpp, ← g1]⟩
theorem c_impl_leavesBelow (t : Pt) (hs : smallT t) : ∀ (h : Nat) (i : Int) (ys : List Int), wkT t h i = true → ys.length + (wlk t h i).length ≤ 1000000 → AppS prog 74 3 [ptP t, i64 i] ys (lvB t h i) := by
  intro h
  induction h with
  | zero => intro i ys hw; simp [wkT] at hw
  | succ h ih => intro i ys hw hb; exact c_impl_leavesBelow_step t hs i h ys hw hb ih
theorem sl_impl_LeavesOf : slimF prog 33 = some (10, (.seq (.reg 0 (.op ⟨some 1, none, .box 53 2 (.t 0)⟩ (.op ⟨some 2, none, .mv (.c .nils)⟩ .nil))) (.seq (.seq (.reg 0 (.op ⟨some 3, none, .load 2 true (.t 1)⟩ (.op ⟨some 4, none, .call 37 [.t 3]⟩ (.op ⟨some 5, none, .not (.t 4)⟩ .nil)))) (.cond (.t 5) (.seq (.reg 0 (.op ⟨some 2, none, .mv (.c .nils)⟩ .nil)) .ret) .skip)) (.seq (.reg 0 (.op ⟨some 6, none, .load 2 true (.t 1)⟩ (.op ⟨some 7, none, .fld 0 1 false (.t 1)⟩ (.op ⟨some 8, none, .load 1 false (.t 7)⟩ (.op ⟨some 9, none, .call 74 [.t 6, .t 8, .c .nils]⟩ (.op ⟨some 2, none, .mv (.t 9)⟩ .nil)))))) .ret)), [.t 2])) := by kernel_rfl
theorem c_impl_LeavesOf (t : Pt) (hs : smallT t) : PCon prog 33 [ptP t] (fun p => p = ints (lvV t)) := by
  refine con_of_VS sl_impl_LeavesOf (by simp) ?_
  refine VS_seq ?_
  refine VS_r0 rfl ?_
  refine q_box rfl rfl rfl trivial ?_
  refine q_mv rfl ?_
  refine rg_nil ?_
  refine VS_seq ?_
  refine VS_seq ?_
  refine VS_r0 rfl ?_
  first | refine q_load_c rfl rfl rfl ?_ | refine q_load_ra rfl rfl rfl rfl rfl (by first | (simp; done) | (simp [setAt]; done)) rfl ?_
  refine q_callp (c_impl_ValidTree t hs) rfl trivial ?_
  refine q_not rfl ?_
  refine rg_nil ?_
  refine VS_cond rfl (fun c0 => ?_) (fun c0 => ?_)
  · try simp at c0
    refine VS_seq ?_
    refine VS_r0 rfl ?_
    refine q_mv rfl ?_
    refine rg_nil ?_
    refine VS_ret ?_
    have hv : validT t = false := by simpa using c0
    exact Bd.now ⟨_, rfl, by rw [lvV, hv]; rfl⟩
  · try simp at c0
    have hv : validT t = true := by simpa using c0
    have hvf := valid_facts hv
    refine VS_skip ?_
    refine VS_seq ?_
    refine VS_r0 rfl ?_
    first | refine q_load_c rfl rfl rfl ?_ | refine q_load_ra rfl rfl rfl rfl rfl (by first | (simp; done) | (simp [setAt]; done)) rfl ?_
    first | refine q_fld_r rfl ?_ | refine q_fld_c rfl rfl ?_
    first | refine q_load_c rfl rfl rfl ?_ | refine q_load_r rfl rfl rfl rfl rfl rfl rfl ?_ | refine q_load_o rfl rfl rfl rfl rfl ?_
    refine q_apps0 (zs := lvB t (hgtT t) t.r) rfl (c_impl_leavesBelow t hs (hgtT t) t.r [] hvf.wk (by have := hvf.n16; simp; omega)) (by repeat (first | exact trivial | refine ⟨.inl rfl, ?_⟩ | refine ⟨.inr ⟨_, rfl, rfl⟩, ?_⟩)) trivial ?_
    refine q_mv rfl ?_
    refine rg_nil ?_
    refine VS_ret ?_
    refine Bd.pureB 2 1 3 1 (xs := dI (lvB t (hgtT t) t.r)) rfl rfl (toPVs_dI _) ?_
    exact Bd.now ⟨_, rfl, by rw [lvV, if_pos hv]; rfl⟩
theorem sl_impl_pairsOfLeaf : slimF prog 75 = some (30, (.seq (.reg 0 (.op ⟨some 1, none, .box 65 3 (.t 0)⟩ (.op ⟨some 2, none, .mv (.c .nils)⟩ .nil))) (.seq (.reg 0 (.op ⟨some 6, none, .fld 0 1 false (.t 1)⟩ (.op ⟨some 7, none, .load 1 false (.t 6)⟩ (.op ⟨some 8, none, .len (.t 7)⟩ (.op ⟨some 9, none, .mks 25 2 16 (.agg [.pv (.int .i64 0), .pv (.int .i64 0)]) (.t 8)⟩ (.op ⟨some 3, none, .mv (.t 9)⟩ .nil)))))) (.seq (.seq (.reg 0 (.op ⟨some 10, none, .fld 0 1 false (.t 1)⟩ (.op ⟨some 11, none, .load 1 false (.t 10)⟩ (.op ⟨some 12, none, .len (.t 11)⟩ (.op ⟨some 13, none, .mv (.c (.pv (.int .i64 0)))⟩ .nil))))) (.block 0 (.loop (.seq (.reg 0 (.op ⟨some 14, none, .bin .lss (.t 13) (.t 12)⟩ .nil)) (.seq (.cond (.t 14) .skip (.exit 0)) (.seq (.block 1 (.seq (.reg 0 (.op ⟨some 15, none, .mv (.t 13)⟩ (.op ⟨some 16, none, .idx 1 (.t 11) (.t 13)⟩ (.op ⟨some 17, none, .load 1 false (.t 16)⟩ (.op ⟨some 4, none, .mv (.t 15)⟩ (.op ⟨some 5, none, .mv (.t 17)⟩ .nil)))))) (.reg 0 (.op ⟨some 18, none, .mv (.t 3)⟩ (.op ⟨some 19, none, .mv (.t 4)⟩ (.op ⟨some 20, none, .mv (.t 5)⟩ (.op ⟨some 21, none, .fld 2 1 false (.t 1)⟩ (.op ⟨some 22, none, .load 1 false (.t 21)⟩ (.op ⟨some 23, none, .mv (.t 4)⟩ (.op ⟨some 24, none, .idx 1 (.t 22) (.t 23)⟩ (.op ⟨some 25, none, .load 1 false (.t 24)⟩ (.op ⟨some 26, none, .build [.pv (.int .i64 0), .pv (.int .i64 0)] [(0, (1, .t 20)), (1, (1, .t 25))]⟩ (.op ⟨some 27, none, .idx 2 (.t 18) (.t 19)⟩ (.op ⟨none, none, .store 2 (.t 27) (.t 26)⟩ .nil)))))))))))))) (.reg 0 (.op ⟨some 28, none, .bin .add (.t 13) (.c (.pv (.int .i64 1)))⟩ (.op ⟨some 13, none, .mv (.t 28)⟩ .nil))))))))) (.seq (.reg 0 (.op ⟨some 29, none, .mv (.t 3)⟩ (.op ⟨some 2, none, .mv (.t 29)⟩ .nil))) .ret))), [.t 2])) := by kernel_rfl
theorem c_impl_pairsOfLeaf (g : Pg) (hl : g.ks.length ≤ g.vs.length) (hk : g.ks.length ≤ 1000000) : PCon prog 75 [pgP g] (fun p => p = prs (rowG g)) := by
  refine con_of_VS sl_impl_pairsOfLeaf (by simp) ?_
  refine VS_seq ?_
  refine VS_r0 rfl ?_
  refine q_box rfl rfl rfl trivial ?_
  refine q_mv rfl ?_
  refine rg_nil ?_
  refine VS_seq ?_
  refine VS_r0 rfl ?_
  first | refine q_fld_r rfl ?_ | refine q_fld_c rfl rfl ?_
  first | refine q_load_c rfl rfl rfl ?_ | refine q_load_r rfl rfl rfl rfl rfl rfl rfl ?_ | refine q_load_o rfl rfl rfl rfl rfl ?_
  first | refine q_len_m rfl ?_ | refine q_len_s rfl ?_ | refine q_len_o rfl ?_ | refine q_len_n rfl ?_ | refine q_len_x rfl ?_
  refine q_mks rfl ⟨by omega, by omega, by omega⟩ trivial ?_
  refine q_mv rfl ?_
  refine rg_nil ?_
  refine VS_seq ?_
  refine VS_seq ?_
  refine VS_r0 rfl ?_
  first | refine q_fld_r rfl ?_ | refine q_fld_c rfl rfl ?_
  first | refine q_load_c rfl rfl rfl ?_ | refine q_load_r rfl rfl rfl rfl rfl rfl rfl ?_ | refine q_load_o rfl rfl rfl rfl rfl ?_
  first | refine q_len_m rfl ?_ | refine q_len_s rfl ?_ | refine q_len_o rfl ?_ | refine q_len_n rfl ?_ | refine q_len_x rfl ?_
  refine q_mv rfl ?_
  refine rg_nil ?_
  refine VS_block ?_
  refine VS_bd (Bd.keepL [(1, .ptr 0 0 0), (3, .own 1 g.ks.length), (11, .pv (ints g.ks)), (12, .pv (i64 g.ks.length)), (13, .pv (i64 0))] ⟨rfl, rfl, rfl, rfl, rfl, trivial⟩ ?_)
  refine VS_loop (fun mz E S => ∃ i : Nat, ∃ ys : List (Int × Int), mz = g.ks.length - i ∧ (i ≤ g.ks.length) ∧ (ys.take i = rowTo g i) ∧ (ys.length = g.ks.length) ∧ E = env [(1, .ptr 0 0 0), (3, .own 1 g.ks.length), (11, .pv (ints g.ks)), (12, .pv (i64 g.ks.length)), (13, .pv (i64 i))] ∧ S = [some ⟨65, 3, [.pv (pgP g)]⟩, some ⟨25, 2, dQ ys⟩]) ⟨_, 0, List.replicate g.ks.length (0, 0), rfl, (by first | omega | (intros; omega) | simp), rfl, (by simp), rfl, (l2 rfl (by simp))⟩ ?_
  rintro mz _ _ ⟨i, ys, hmeas, g0, g1, g2, rfl, rfl⟩
  refine VS_seq ?_
  refine VS_r0 rfl ?_
  refine q_lss rfl rfl ?_
  refine rg_nil ?_
  refine VS_seq ?_
  refine VS_cond rfl (fun c0 => ?_) (fun c0 => ?_)
  · try simp at c0
    refine VS_skip ?_
    refine VS_seq ?_
    refine VS_block ?_
    refine VS_seq ?_
    refine VS_r0 rfl ?_
    refine q_mv rfl ?_
    refine q_idx_m (f := fun k => i64 k) (xs := g.ks) (n := (i : Int)) rfl rfl (by omega) (by omega) (fun _ => rfl) ?_
    first | refine q_load_c rfl rfl rfl ?_ | refine q_load_r rfl rfl rfl rfl rfl rfl rfl ?_ | refine q_load_o rfl rfl rfl rfl rfl ?_
    refine q_mv rfl ?_
    refine q_mv rfl ?_
    refine rg_nil ?_
    refine VS_r0 rfl ?_
    refine q_mv rfl ?_
    refine q_mv rfl ?_
    refine q_mv rfl ?_
    first | refine q_fld_r rfl ?_ | refine q_fld_c rfl rfl ?_
    first | refine q_load_c rfl rfl rfl ?_ | refine q_load_r rfl rfl rfl rfl rfl rfl rfl ?_ | refine q_load_o rfl rfl rfl rfl rfl ?_
    refine q_mv rfl ?_
    refine q_idx_m (f := fun k => i64 k) (xs := g.vs) (n := (i : Int)) rfl rfl (by omega) (by omega) (fun _ => rfl) ?_
    first | refine q_load_c rfl rfl rfl ?_ | refine q_load_r rfl rfl rfl rfl rfl rfl rfl ?_ | refine q_load_o rfl rfl rfl rfl rfl ?_
    refine q_build rfl ?_
    refine q_idx_o rfl rfl (by omega) (by omega) rfl rfl ?_
    refine q_store_q (xs := ys) (nth g.ks i, nth g.vs i) rfl rfl rfl (by omega) trivial ?_
    refine rg_nil ?_
    refine VS_r0 rfl ?_
    refine q_add rfl rfl (inR64 (by omega)) ?_
    refine q_mv rfl ?_
    refine rg_nil ?_
    refine Bd.renL [0, 1] (fun i hi => by first | (exact absurd hi (Nat.not_lt_zero i)) | (have e : i = 0 := (by simp at hi; omega); subst e; rfl) | (have e : i = 0 ∨ i = 1 := (by simp at hi; omega); rcases e with rfl | rfl <;> rfl)) (by simp) [(1, .ptr 0 0 0), (3, .own 1 g.ks.length), (11, .pv (ints g.ks)), (12, .pv (i64 g.ks.length)), (13, .pv (i64 (i + 1)))] ⟨rfl, rfl, rfl, rfl, rfl, trivial⟩ (l2 rfl (mpO_Q _)) ⟨_, ?_, i + 1, ys.set i (nth g.ks i, nth g.vs i), rfl, ?_, ?_, ?_, rfl, rfl⟩
    · first | omega | assumption | rfl | (simp; omega)
    · first | omega | assumption | rfl | (simp; omega)
    · exact row_step (by omega) g1
    · simp; omega
  · try simp at c0
    refine VS_exit ?_
    refine VS_seq ?_
    refine VS_r0 rfl ?_
    refine q_mv rfl ?_
    refine q_mv rfl ?_
    refine rg_nil ?_
    refine VS_ret ?_
    have e : i = g.ks.length := by omega
    subst e
    rw [List.take_of_length_le (by omega)] at g1
    subst g1
    refine Bd.pureOB 2 1 rfl rfl (by simp [rowTo]) (toPVs_dQ _) ?_
    exact Bd.now ⟨_, rfl, rfl⟩
theorem sl_impl_PairsOf : slimF prog 36 = some (23, (.seq (.reg 0 (.op ⟨some 1, none, .box 53 2 (.t 0)⟩ (.op ⟨some 2, none, .mv (.c .nils)⟩ .nil))) (.seq (.reg 0 (.op ⟨some 3, none, .mv (.c .nils)⟩ .nil)) (.seq (.seq (.reg 0 (.op ⟨some 6, none, .load 2 true (.t 1)⟩ (.op ⟨some 7, none, .call 33 [.t 6]⟩ (.op ⟨some 8, none, .len (.t 7)⟩ (.op ⟨some 9, none, .mv (.c (.pv (.int .i64 0)))⟩ .nil))))) (.block 0 (.loop (.seq (.reg 0 (.op ⟨some 10, none, .bin .lss (.t 9) (.t 8)⟩ .nil)) (.seq (.cond (.t 10) .skip (.exit 0)) (.seq (.block 1 (.seq (.reg 0 (.op ⟨some 11, none, .idx 1 (.t 7) (.t 9)⟩ (.op ⟨some 12, none, .load 1 false (.t 11)⟩ (.op ⟨some 5, none, .mv (.t 12)⟩ .nil)))) (.reg 0 (.op ⟨some 13, none, .mv (.t 3)⟩ (.op ⟨some 14, none, .fld 1 1 false (.t 1)⟩ (.op ⟨some 15, none, .load 1 false (.t 14)⟩ (.op ⟨some 16, none, .mv (.t 5)⟩ (.op ⟨some 17, none, .idx 3 (.t 15) (.t 16)⟩ (.op ⟨some 18, none, .load 3 true (.t 17)⟩ (.op ⟨some 19, none, .call 75 [.t 18]⟩ (.op ⟨some 20, none, .app 25 2 16 (.t 13) (.t 19)⟩ (.op ⟨some 3, none, .mv (.t 20)⟩ .nil)))))))))))) (.reg 0 (.op ⟨some 21, none, .bin .add (.t 9) (.c (.pv (.int .i64 1)))⟩ (.op ⟨some 9, none, .mv (.t 21)⟩ .nil))))))))) (.seq (.reg 0 (.op ⟨some 22, none, .mv (.t 3)⟩ (.op ⟨some 2, none, .mv (.t 22)⟩ .nil))) .ret))), [.t 2])) := by kernel_rfl
theorem c_impl_PairsOf (t : Pt) (hs : smallT t) : PCon prog 36 [ptP t] (fun p => p = prs (prV t)) := by
  have hll := lvV_len (t := t)
  refine con_of_VS sl_impl_PairsOf (by simp) ?_
  refine VS_seq ?_
  refine VS_r0 rfl ?_
  refine q_box rfl rfl rfl trivial ?_
  refine q_mv rfl ?_
  refine rg_nil ?_
  refine VS_seq ?_
  refine VS_r0 rfl ?_
  refine q_mv rfl ?_
  refine rg_nil ?_
  refine VS_seq ?_
  refine VS_seq ?_
  refine VS_r0 rfl ?_
  first | refine q_load_c rfl rfl rfl ?_ | refine q_load_ra rfl rfl rfl rfl rfl (by first | (simp; done) | (simp [setAt]; done)) rfl ?_
  refine q_callp (c_impl_LeavesOf t hs) rfl trivial ?_
  first | refine q_len_m rfl ?_ | refine q_len_s rfl ?_ | refine q_len_o rfl ?_ | refine q_len_n rfl ?_ | refine q_len_x rfl ?_
  refine q_mv rfl ?_
  refine rg_nil ?_
  refine VS_block ?_
  refine VS_bd (Bd.pad ?_)
  refine VS_bd (Bd.keepL [(1, .ptr 0 0 0), (3, ownD 1 (dP ([]))), (7, .pv (ints (lvV t))), (8, .pv (i64 (lvV t).length)), (9, .pv (i64 0))] ⟨rfl, rfl, rfl, rfl, rfl, trivial⟩ ?_)
  refine VS_loop (fun mz E S => ∃ j : Nat, ∃ ys : List (Int × Int), mz = (lvV t).length - j ∧ (j ≤ (lvV t).length) ∧ (ys = ((lvV t).take j).flatMap fun i => rowG (pg t i)) ∧ E = env [(1, .ptr 0 0 0), (3, ownD 1 (dP ys)), (7, .pv (ints (lvV t))), (8, .pv (i64 (lvV t).length)), (9, .pv (i64 j))] ∧ S = [some ⟨53, 2, [.pv (ptP t)]⟩, obD 25 2 (dP ys)]) ⟨_, 0, [], rfl, (by first | omega | (intros; omega) | simp), (by simp), rfl, rfl⟩ ?_
  rintro mz _ _ ⟨j, ys, hmeas, g0, g1, rfl, rfl⟩
  refine VS_seq ?_
  refine VS_r0 rfl ?_
  refine q_lss rfl rfl ?_
  refine rg_nil ?_
  refine VS_seq ?_
  refine VS_cond rfl (fun c0 => ?_) (fun c0 => ?_)
  · try simp at c0
    have hat := lvV_at (t := t) (j := j) (by omega)
    have hat2 := hat.1
    have hrk : (nth t.ps (nth (lvV t) j).toNat).ks.length ≤ 4 := hat.2.2
    have hfp : _ + (rowG (nth t.ps (nth (lvV t) j).toNat)).length ≤ 64 := prV_part (t := t) (j := j) (by omega)
    have hyl : ys.length = (((lvV t).take j).flatMap fun i => rowG (pg t i)).length := by rw [g1]
    refine VS_skip ?_
    refine VS_seq ?_
    refine VS_block ?_
    refine VS_seq ?_
    refine VS_r0 rfl ?_
    refine q_idx_m (f := fun k => i64 k) (xs := lvV t) (n := (j : Int)) rfl rfl (by omega) (by omega) (fun _ => rfl) ?_
    first | refine q_load_c rfl rfl rfl ?_ | refine q_load_r rfl rfl rfl rfl rfl rfl rfl ?_ | refine q_load_o rfl rfl rfl rfl rfl ?_
    refine q_mv rfl ?_
    refine rg_nil ?_
    refine VS_r0 rfl ?_
    refine q_mv rfl ?_
    first | refine q_fld_r rfl ?_ | refine q_fld_c rfl rfl ?_
    first | refine q_load_c rfl rfl rfl ?_ | refine q_load_r rfl rfl rfl rfl rfl rfl rfl ?_ | refine q_load_o rfl rfl rfl rfl rfl ?_
    refine q_mv rfl ?_
    refine q_idx_m (f := pgP) (xs := t.ps) (n := nth (lvV t) j) rfl rfl (by omega) (by omega) (fun _ => rfl) ?_
    first | refine q_load_c rfl rfl rfl ?_ | refine q_load_ra rfl rfl rfl rfl rfl (by first | (simp; done) | (simp [setAt]; done)) rfl ?_
    refine q_callp (c_impl_pairsOfLeaf (nth t.ps (nth (lvV t) j).toNat) hat.2.1 (by omega)) rfl trivial ?_
    refine q_app_dm (xs := ys) (ys := rowG (nth t.ps (nth (lvV t) j).toNat)) (f := fun k => .pv (pairP k)) rfl (elems_P _) (cell_P _) rfl ⟨by omega, by omega⟩ trivial ?_
    refine q_mv rfl ?_
    refine rg_nil ?_
    refine VS_r0 rfl ?_
    refine q_add rfl rfl (inR64 (by omega)) ?_
    refine q_mv rfl ?_
    refine rg_nil ?_
    refine Bd.renL [0, 2] (fun i hi => by first | (exact absurd hi (Nat.not_lt_zero i)) | (have e : i = 0 := (by simp at hi; omega); subst e; rfl) | (have e : i = 0 ∨ i = 1 := (by simp at hi; omega); rcases e with rfl | rfl <;> rfl)) (by simp) [(1, .ptr 0 0 0), (3, ownD 1 (dP (ys ++ rowG (nth t.ps (nth (lvV t) j).toNat)))), (7, .pv (ints (lvV t))), (8, .pv (i64 (lvV t).length)), (9, .pv (i64 (j + 1)))] ⟨rfl, inv_own rfl, rfl, rfl, rfl, trivial⟩ (l2 rfl (obD_mP _)) ⟨_, ?_, j + 1, ys ++ rowG (nth t.ps (nth (lvV t) j).toNat), rfl, ?_, ?_, rfl, rfl⟩
    · first | omega | assumption | rfl | (simp; omega)
    · first | omega | assumption | rfl | (simp; omega)
    · rw [g1, flat_take (by omega)]
  · try simp at c0
    refine VS_exit ?_
    refine VS_seq ?_
    refine VS_r0 rfl ?_
    refine q_mv rfl ?_
    refine q_mv rfl ?_
    refine rg_nil ?_
    refine VS_ret ?_
    have e : j = (lvV t).length := by omega
    rw [e, List.take_length] at g1
    refine Bd.pureB 2 1 25 2 (xs := dP ys) rfl rfl (toPVs_dP _) ?_
    exact Bd.now ⟨_, rfl, by rw [g1, prV_flat]⟩
theorem sl_impl_FillOf : slimF prog 35 = some (15, (.seq (.reg 0 (.op ⟨some 1, none, .box 53 2 (.t 0)⟩ (.op ⟨some 2, none, .mv (.c (.pv (.int .i64 0)))⟩ .nil))) (.seq (.seq (.reg 0 (.op ⟨some 3, none, .load 2 true (.t 1)⟩ (.op ⟨some 4, none, .call 37 [.t 3]⟩ (.op ⟨some 5, none, .not (.t 4)⟩ .nil)))) (.cond (.t 5) (.seq (.reg 0 (.op ⟨some 2, none, .mv (.c (.pv (.int .i64 (-1))))⟩ .nil)) .ret) .skip)) (.seq (.reg 2 (.op ⟨some 6, none, .load 2 true (.t 1)⟩ (.op ⟨some 10, none, .load 2 true (.t 1)⟩ (.op ⟨some 7, none, .call 36 [.t 6]⟩ (.op ⟨some 8, none, .len (.t 7)⟩ (.op ⟨some 9, none, .bin .mul (.c (.pv (.int .i64 100))) (.t 8)⟩ (.op ⟨some 11, none, .call 33 [.t 10]⟩ (.op ⟨some 12, none, .len (.t 11)⟩ (.op ⟨some 13, none, .bin .mul (.c (.pv (.int .i64 4))) (.t 12)⟩ (.op ⟨some 14, none, .bin .quo (.t 9) (.t 13)⟩ (.op ⟨some 2, none, .mv (.t 14)⟩ .nil))))))))))) .ret)), [.t 2])) := by kernel_rfl
theorem c_impl_FillOf (t : Pt) (hs : smallT t) : PCon prog 35 [ptP t] (fun p => p = i64 (if validT t then ((fillV t : Nat) : Int) else -1)) := by
  have hll := lvV_len (t := t)
  have hpl := prV_len (t := t)
  have hfl := fill_le (t := t)
  refine con_of_VS sl_impl_FillOf (by simp) ?_
  refine VS_seq ?_
  refine VS_r0 rfl ?_
  refine q_box rfl rfl rfl trivial ?_
  refine q_mv rfl ?_
  refine rg_nil ?_
  refine VS_seq ?_
  refine VS_seq ?_
  refine VS_r0 rfl ?_
  first | refine q_load_c rfl rfl rfl ?_ | refine q_load_ra rfl rfl rfl rfl rfl (by first | (simp; done) | (simp [setAt]; done)) rfl ?_
  refine q_callp (c_impl_ValidTree t hs) rfl trivial ?_
  refine q_not rfl ?_
  refine rg_nil ?_
  refine VS_cond rfl (fun c0 => ?_) (fun c0 => ?_)
  · try simp at c0
    refine VS_seq ?_
    refine VS_r0 rfl ?_
    refine q_mv rfl ?_
    refine rg_nil ?_
    refine VS_ret ?_
    have hv : validT t = false := by simpa using c0
    exact Bd.now ⟨_, rfl, by rw [hv]; rfl⟩
  · try simp at c0
    have hv : validT t = true := by simpa using c0
    have hlp := lv_pos hv
    refine VS_skip ?_
    refine VS_seq ?_
    refine VS_r2 [some ⟨53, 2, [.pv (ptP t)]⟩] hmix (SubL.sub (by repeat (first | exact SubL.nil | apply SubL.none | apply SubL.some | apply SubL.sh | apply SubL.eq))) ?_
    first | refine q_load_c rfl rfl rfl ?_ | refine q_load_ra rfl rfl rfl rfl rfl (by first | (simp; done) | (simp [setAt]; done)) rfl ?_
    first | refine q_load_c rfl rfl rfl ?_ | refine q_load_ra rfl rfl rfl rfl rfl (by first | (simp; done) | (simp [setAt]; done)) rfl ?_
    refine q_callp (c_impl_PairsOf t hs) rfl (by first | exact trivial | exact Sub.nil | exact Sub.refl _ | exact Sub.app _ _ | exact SubL.sub (by repeat (first | exact SubL.nil | apply SubL.none | apply SubL.some | apply SubL.sh | apply SubL.eq)) | (refine Sub.of_eq ?_; intro o ob h; rcases o with _ | _ | _ | _ | _ | o <;> simp_all)) ?_
    first | refine q_len_m rfl ?_ | refine q_len_s rfl ?_ | refine q_len_o rfl ?_ | refine q_len_n rfl ?_ | refine q_len_x rfl ?_
    refine q_mul rfl rfl (inR64 (by omega)) ?_
    refine q_callp (c_impl_LeavesOf t hs) rfl (by first | exact trivial | exact Sub.nil | exact Sub.refl _ | exact Sub.app _ _ | exact SubL.sub (by repeat (first | exact SubL.nil | apply SubL.none | apply SubL.some | apply SubL.sh | apply SubL.eq)) | (refine Sub.of_eq ?_; intro o ob h; rcases o with _ | _ | _ | _ | _ | o <;> simp_all)) ?_
    first | refine q_len_m rfl ?_ | refine q_len_s rfl ?_ | refine q_len_o rfl ?_ | refine q_len_n rfl ?_ | refine q_len_x rfl ?_
    refine q_mul rfl rfl (inR64 (by omega)) ?_
    refine q_quo_to ((fillV t : Nat) : Int) rfl rfl ⟨by omega, by omega⟩ (by simp [fillV]) (inR64 (by omega)) ?_
    refine q_mv rfl ?_
    refine rg_nil ?_
    refine VS_ret ?_
    exact Bd.now ⟨_, rfl, by rw [if_pos hv]⟩
end Go.V

set_option maxHeartbeats 4000000
namespace Go.V
open Go.Proofs.Try (prog)
set_option maxRecDepth 100000
theorem sl_spec_LoadTree : slimF prog 31 = some (10, (.seq (.reg 0 (.op ⟨some 2, none, .alloc 53 2 (.agg [.pv (.int .i64 0), .nils])⟩ (.op ⟨some 3, none, .mv (.c (.pv (.bool false)))⟩ .nil))) (.seq (.seq (.reg 0 (.op ⟨some 4, none, .mv (.t 0)⟩ (.op ⟨some 5, none, .call 48 [.t 4]⟩ (.op ⟨some 6, none, .not (.t 5)⟩ .nil)))) (.cond (.t 6) (.seq (.reg 0 (.op ⟨some 7, none, .build [.pv (.int .i64 0), .nils] []⟩ (.op ⟨none, none, .store 2 (.t 2) (.t 7)⟩ (.op ⟨some 3, none, .mv (.c (.pv (.bool false)))⟩ .nil)))) .ret) .skip)) (.seq (.reg 0 (.op ⟨some 8, none, .mv (.t 0)⟩ (.op ⟨some 9, none, .call 72 [.t 8]⟩ (.op ⟨none, none, .store 2 (.t 2) (.t 9)⟩ (.op ⟨some 3, none, .mv (.c (.pv (.bool true)))⟩ .nil))))) .ret)), [.c 2 2, .t 3])) := by kernel_rfl
theorem c_spec_LoadTree (xs : List (Int × Int)) (hl : xs.length ≤ 1000000) : PCon prog 31 [prs xs] (fun p => p = .tup [ptP (if goodR xs then loadT xs else ⟨0, []⟩), .bool (goodR xs)]) := by
  refine con_of_VS sl_spec_LoadTree (by simp) ?_
  refine VS_seq ?_
  refine VS_r0 rfl ?_
  refine q_alloc trivial ?_
  refine q_mv rfl ?_
  refine rg_nil ?_
  refine VS_seq ?_
  refine VS_seq ?_
  refine VS_r0 rfl ?_
  refine q_mv rfl ?_
  refine q_callp (c_spec_validRow xs (by omega)) rfl trivial ?_
  refine q_not rfl ?_
  refine rg_nil ?_
  refine VS_cond rfl (fun c0 => ?_) (fun c0 => ?_)
  · try simp at c0
    have hgf : goodR xs = false := by simpa using c0
    refine VS_seq ?_
    refine VS_r0 rfl ?_
    refine q_build rfl ?_
    first | refine q_store rfl rfl rfl rfl rfl rfl ⟨rfl, rfl, by simp, rfl, by simp [isOne]⟩ rfl trivial ?_ | refine q_storeF rfl rfl rfl rfl rfl (by first | (simp; done) | (simp [setAt]; done)) trivial ?_ | refine q_store rfl rfl rfl rfl rfl rfl ⟨rfl, rfl, by simp, by simp [setAt, isCell_own, isCell_sl, isCell_int, isCell_nils], by simp [isOne]⟩ rfl trivial ?_
    refine q_mv rfl ?_
    refine rg_nil ?_
    refine VS_ret ?_
    refine Bd.now ⟨_, rfl, ?_⟩
    rw [hgf]; rfl
  · try simp at c0
    have hg : goodR xs = true := by simpa using c0
    have hx := goodR_len hg
    refine VS_skip ?_
    refine VS_seq ?_
    refine VS_r0 rfl ?_
    refine q_mv rfl ?_
    refine q_newT rfl (show NewT prog 72 65 [prs xs] (loadT xs) from c_spec_load xs hx) rfl trivial ?_
    first | refine q_store rfl rfl rfl rfl rfl rfl ⟨rfl, rfl, by simp, rfl, by simp [isOne]⟩ rfl trivial ?_ | refine q_storeF rfl rfl rfl rfl rfl (by first | (simp; done) | (simp [setAt]; done)) trivial ?_ | refine q_store rfl rfl rfl rfl rfl rfl ⟨rfl, rfl, by simp, by simp [setAt, isCell_own, isCell_sl, isCell_int, isCell_nils], by simp [isOne]⟩ rfl trivial ?_
    refine q_mv rfl ?_
    refine rg_nil ?_
    refine VS_bd (Bd.frzF 1 0 0 1 65 3 (xs := dG (loadT xs).ps) (by decide) rfl (toPVs_dG _) rfl rfl rfl ?_)
    refine VS_ret ?_
    refine Bd.now ⟨_, rfl, ?_⟩
    rw [hg]; rfl
theorem sl_laws_equalPages : slimF prog 73 = some (57, (.seq (.reg 0 (.op ⟨some 4, none, .mv (.c (.pv (.bool false)))⟩ .nil)) (.seq (.seq (.reg 0 (.op ⟨some 6, none, .mv (.t 0)⟩ (.op ⟨some 7, none, .len (.t 6)⟩ (.op ⟨some 8, none, .mv (.t 1)⟩ (.op ⟨some 9, none, .len (.t 8)⟩ (.op ⟨some 10, none, .bin .neq (.t 7) (.t 9)⟩ .nil)))))) (.cond (.t 10) (.seq (.reg 0 (.op ⟨some 4, none, .mv (.c (.pv (.bool false)))⟩ .nil)) .ret) .skip)) (.seq (.seq (.reg 0 (.op ⟨some 5, none, .mv (.c (.pv (.int .i64 0)))⟩ .nil)) (.block 0 (.loop (.seq (.seq (.reg 0 (.op ⟨some 11, none, .mv (.t 5)⟩ (.op ⟨some 12, none, .mv (.t 0)⟩ (.op ⟨some 13, none, .len (.t 12)⟩ (.op ⟨some 14, none, .bin .lss (.t 11) (.t 13)⟩ .nil))))) (.cond (.t 14) .skip (.exit 0))) (.seq (.block 1 (.seq (.reg 2 (.op ⟨some 17, none, .mv (.t 0)⟩ (.op ⟨some 18, none, .mv (.t 5)⟩ (.op ⟨some 19, none, .idx 3 (.t 17) (.t 18)⟩ (.op ⟨some 20, none, .fld 0 1 false (.t 19)⟩ (.op ⟨some 21, none, .load 1 false (.t 20)⟩ (.op ⟨some 22, none, .mv (.t 1)⟩ (.op ⟨some 23, none, .mv (.t 5)⟩ (.op ⟨some 24, none, .idx 3 (.t 22) (.t 23)⟩ (.op ⟨some 25, none, .fld 0 1 false (.t 24)⟩ (.op ⟨some 26, none, .load 1 false (.t 25)⟩ (.op ⟨some 27, none, .call 62 [.t 21, .t 26]⟩ (.op ⟨some 28, none, .not (.t 27)⟩ (.op ⟨some 29, none, .mv (.t 28)⟩ (.op ⟨some 30, some (29, false), .mv (.t 0)⟩ (.op ⟨some 31, some (29, false), .mv (.t 5)⟩ (.op ⟨some 32, some (29, false), .idx 3 (.t 30) (.t 31)⟩ (.op ⟨some 33, some (29, false), .fld 1 1 false (.t 32)⟩ (.op ⟨some 34, some (29, false), .load 1 false (.t 33)⟩ (.op ⟨some 35, some (29, false), .mv (.t 1)⟩ (.op ⟨some 36, some (29, false), .mv (.t 5)⟩ (.op ⟨some 37, some (29, false), .idx 3 (.t 35) (.t 36)⟩ (.op ⟨some 38, some (29, false), .fld 1 1 false (.t 37)⟩ (.op ⟨some 39, some (29, false), .load 1 false (.t 38)⟩ (.op ⟨some 40, some (29, false), .call 62 [.t 34, .t 39]⟩ (.op ⟨some 41, some (29, false), .not (.t 40)⟩ (.op ⟨some 42, none, .pick (.t 29) (.c (.pv (.bool true))) (.t 41)⟩ (.op ⟨some 43, none, .mv (.t 42)⟩ (.op ⟨some 44, some (43, false), .mv (.t 0)⟩ (.op ⟨some 45, some (43, false), .mv (.t 5)⟩ (.op ⟨some 46, some (43, false), .idx 3 (.t 44) (.t 45)⟩ (.op ⟨some 47, some (43, false), .fld 2 1 false (.t 46)⟩ (.op ⟨some 48, some (43, false), .load 1 false (.t 47)⟩ (.op ⟨some 49, some (43, false), .mv (.t 1)⟩ (.op ⟨some 50, some (43, false), .mv (.t 5)⟩ (.op ⟨some 51, some (43, false), .idx 3 (.t 49) (.t 50)⟩ (.op ⟨some 52, some (43, false), .fld 2 1 false (.t 51)⟩ (.op ⟨some 53, some (43, false), .load 1 false (.t 52)⟩ (.op ⟨some 54, some (43, false), .call 62 [.t 48, .t 53]⟩ (.op ⟨some 55, some (43, false), .not (.t 54)⟩ (.op ⟨some 56, none, .pick (.t 43) (.c (.pv (.bool true))) (.t 55)⟩ .nil))))))))))))))))))))))))))))))))))))))))) (.cond (.t 56) (.seq (.reg 0 (.op ⟨some 4, none, .mv (.c (.pv (.bool false)))⟩ .nil)) .ret) .skip))) (.reg 0 (.op ⟨some 15, none, .mv (.t 5)⟩ (.op ⟨some 16, none, .bin .add (.t 15) (.c (.pv (.int .i64 1)))⟩ (.op ⟨some 5, none, .mv (.t 16)⟩ .nil))))))))) (.seq (.reg 0 (.op ⟨some 4, none, .mv (.c (.pv (.bool true)))⟩ .nil)) .ret))), [.t 4])) := by kernel_rfl
theorem c_laws_equalPages (a b : List Pg) (ha : smG a) (hb : smG b) : PCon prog 73 [pgsP a, pgsP b] (fun p => p = .bool (decide (a = b))) := by
  have hal := ha.1
  have hbl := hb.1
  refine con_of_VS sl_laws_equalPages (by simp) ?_
  refine VS_seq ?_
  refine VS_r0 rfl ?_
  refine q_mv rfl ?_
  refine rg_nil ?_
  refine VS_seq ?_
  refine VS_seq ?_
  refine VS_r0 rfl ?_
  refine q_mv rfl ?_
  first | refine q_len_m rfl ?_ | refine q_len_s rfl ?_ | refine q_len_o rfl ?_ | refine q_len_n rfl ?_ | refine q_len_x rfl ?_
  refine q_mv rfl ?_
  first | refine q_len_m rfl ?_ | refine q_len_s rfl ?_ | refine q_len_o rfl ?_ | refine q_len_n rfl ?_ | refine q_len_x rfl ?_
  refine q_neq rfl rfl ?_
  refine rg_nil ?_
  refine VS_cond rfl (fun c0 => ?_) (fun c0 => ?_)
  · try simp at c0
    refine VS_seq ?_
    refine VS_r0 rfl ?_
    refine q_mv rfl ?_
    refine rg_nil ?_
    refine VS_ret ?_
    refine Bd.now ⟨_, rfl, congrArg PV.bool (decide_eq_false fun e => ?_).symm⟩
    subst e; omega
  · try simp at c0
    have hab : a.length = b.length := by first | omega | (simp at c0; omega)
    refine VS_skip ?_
    refine VS_seq ?_
    refine VS_seq ?_
    refine VS_r0 rfl ?_
    refine q_mv rfl ?_
    refine rg_nil ?_
    refine VS_block ?_
    refine VS_bd (Bd.keepL [(0, .pv (pgsP a)), (1, .pv (pgsP b)), (5, .pv (i64 0))] ⟨rfl, rfl, rfl, trivial⟩ ?_)
    refine VS_loop (fun mz E S => ∃ i : Nat, mz = a.length - i ∧ (i ≤ a.length) ∧ (∀ j, j < i → nth a j = nth b j) ∧ E = env [(0, .pv (pgsP a)), (1, .pv (pgsP b)), (5, .pv (i64 i))] ∧ S = []) ⟨_, 0, rfl, (by first | omega | (intros; omega) | simp), (by first | omega | (intros; omega) | simp), rfl, rfl⟩ ?_
    rintro mz _ _ ⟨i, hmeas, g0, g1, rfl, rfl⟩
    refine VS_seq ?_
    refine VS_seq ?_
    refine VS_r0 rfl ?_
    refine q_mv rfl ?_
    refine q_mv rfl ?_
    first | refine q_len_m rfl ?_ | refine q_len_s rfl ?_ | refine q_len_o rfl ?_ | refine q_len_n rfl ?_ | refine q_len_x rfl ?_
    refine q_lss rfl rfl ?_
    refine rg_nil ?_
    refine VS_cond rfl (fun c1 => ?_) (fun c1 => ?_)
    · try simp at c1
      have hsa := ha.2 i (by omega)
      have hsb := hb.2 i (by omega)
      refine VS_skip ?_
      refine VS_seq ?_
      refine VS_block ?_
      refine VS_seq ?_
      refine VS_r2 _ hmix (Sub.refl _) ?_
      refine q_mv rfl ?_
      refine q_mv rfl ?_
      refine q_idx_m (f := pgP) (xs := a) (n := (i : Int)) rfl rfl (by omega) (by omega) (fun _ => rfl) ?_
      first | refine q_fld_r rfl ?_ | refine q_fld_c rfl rfl ?_
      first | refine q_load_c rfl rfl rfl ?_ | refine q_load_r rfl rfl rfl rfl rfl rfl rfl ?_ | refine q_load_o rfl rfl rfl rfl rfl ?_
      refine q_mv rfl ?_
      refine q_mv rfl ?_
      refine q_idx_m (f := pgP) (xs := b) (n := (i : Int)) rfl rfl (by omega) (by omega) (fun _ => rfl) ?_
      first | refine q_fld_r rfl ?_ | refine q_fld_c rfl rfl ?_
      first | refine q_load_c rfl rfl rfl ?_ | refine q_load_r rfl rfl rfl rfl rfl rfl rfl ?_ | refine q_load_o rfl rfl rfl rfl rfl ?_
      refine q_callp (c_laws_equalInts (nth a i).ks (nth b i).ks (by omega) (by omega)) rfl (by first | exact trivial | exact Sub.nil | exact Sub.refl _ | exact Sub.app _ _ | exact SubL.sub (by repeat (first | exact SubL.nil | apply SubL.none | apply SubL.some | apply SubL.sh | apply SubL.eq)) | (refine Sub.of_eq ?_; intro o ob h; rcases o with _ | _ | _ | _ | _ | o <;> simp_all)) ?_
      refine q_not rfl ?_
      refine q_mv rfl ?_
      refine q_b rfl (fun g29 => ?_) (fun g29 => ?_)
      · try simp at g29
        refine q_t rfl ?_
        refine q_mv rfl ?_
        refine q_t rfl ?_
        refine q_mv rfl ?_
        refine q_t rfl ?_
        refine q_idx_m (f := pgP) (xs := a) (n := (i : Int)) rfl rfl (by omega) (by omega) (fun _ => rfl) ?_
        refine q_t rfl ?_
        first | refine q_fld_r rfl ?_ | refine q_fld_c rfl rfl ?_
        refine q_t rfl ?_
        first | refine q_load_c rfl rfl rfl ?_ | refine q_load_r rfl rfl rfl rfl rfl rfl rfl ?_ | refine q_load_o rfl rfl rfl rfl rfl ?_
        refine q_t rfl ?_
        refine q_mv rfl ?_
        refine q_t rfl ?_
        refine q_mv rfl ?_
        refine q_t rfl ?_
        refine q_idx_m (f := pgP) (xs := b) (n := (i : Int)) rfl rfl (by omega) (by omega) (fun _ => rfl) ?_
        refine q_t rfl ?_
        first | refine q_fld_r rfl ?_ | refine q_fld_c rfl rfl ?_
        refine q_t rfl ?_
        first | refine q_load_c rfl rfl rfl ?_ | refine q_load_r rfl rfl rfl rfl rfl rfl rfl ?_ | refine q_load_o rfl rfl rfl rfl rfl ?_
        refine q_t rfl ?_
        refine q_callp (c_laws_equalInts (nth a i).cs (nth b i).cs (by omega) (by omega)) rfl (by first | exact trivial | exact Sub.nil | exact Sub.refl _ | exact Sub.app _ _ | exact SubL.sub (by repeat (first | exact SubL.nil | apply SubL.none | apply SubL.some | apply SubL.sh | apply SubL.eq)) | (refine Sub.of_eq ?_; intro o ob h; rcases o with _ | _ | _ | _ | _ | o <;> simp_all)) ?_
        refine q_t rfl ?_
        refine q_not rfl ?_
        refine q_pick_f rfl rfl ?_
        refine q_mv rfl ?_
        refine q_b rfl (fun g43 => ?_) (fun g43 => ?_)
        · try simp at g43
          refine q_t rfl ?_
          refine q_mv rfl ?_
          refine q_t rfl ?_
          refine q_mv rfl ?_
          refine q_t rfl ?_
          refine q_idx_m (f := pgP) (xs := a) (n := (i : Int)) rfl rfl (by omega) (by omega) (fun _ => rfl) ?_
          refine q_t rfl ?_
          first | refine q_fld_r rfl ?_ | refine q_fld_c rfl rfl ?_
          refine q_t rfl ?_
          first | refine q_load_c rfl rfl rfl ?_ | refine q_load_r rfl rfl rfl rfl rfl rfl rfl ?_ | refine q_load_o rfl rfl rfl rfl rfl ?_
          refine q_t rfl ?_
          refine q_mv rfl ?_
          refine q_t rfl ?_
          refine q_mv rfl ?_
          refine q_t rfl ?_
          refine q_idx_m (f := pgP) (xs := b) (n := (i : Int)) rfl rfl (by omega) (by omega) (fun _ => rfl) ?_
          refine q_t rfl ?_
          first | refine q_fld_r rfl ?_ | refine q_fld_c rfl rfl ?_
          refine q_t rfl ?_
          first | refine q_load_c rfl rfl rfl ?_ | refine q_load_r rfl rfl rfl rfl rfl rfl rfl ?_ | refine q_load_o rfl rfl rfl rfl rfl ?_
          refine q_t rfl ?_
          refine q_callp (c_laws_equalInts (nth a i).vs (nth b i).vs (by omega) (by omega)) rfl (by first | exact trivial | exact Sub.nil | exact Sub.refl _ | exact Sub.app _ _ | exact SubL.sub (by repeat (first | exact SubL.nil | apply SubL.none | apply SubL.some | apply SubL.sh | apply SubL.eq)) | (refine Sub.of_eq ?_; intro o ob h; rcases o with _ | _ | _ | _ | _ | o <;> simp_all)) ?_
          refine q_t rfl ?_
          refine q_not rfl ?_
          refine q_pick_f rfl rfl ?_
          refine rg_nil ?_
          refine VS_cond rfl (fun c2 => ?_) (fun c2 => ?_)
          · try simp at c2
            refine VS_seq ?_
            refine VS_r0 rfl ?_
            refine q_mv rfl ?_
            refine rg_nil ?_
            refine VS_ret ?_
            refine Bd.now ⟨_, rfl, congrArg PV.bool (decide_eq_false fun e => ?_).symm⟩
            subst e; simp_all
          · try simp at c2
            refine VS_skip ?_
            refine VS_r0 rfl ?_
            refine q_mv rfl ?_
            refine q_add rfl rfl (inR64 (by omega)) ?_
            refine q_mv rfl ?_
            refine rg_nil ?_
            refine Bd.keepL [(0, .pv (pgsP a)), (1, .pv (pgsP b)), (5, .pv (i64 (i + 1)))] ⟨rfl, rfl, rfl, trivial⟩ ⟨_, ?_, i + 1, rfl, ?_, ?_, rfl, rfl⟩
            · first | omega | assumption | rfl | (simp; omega)
            · first | omega | assumption | rfl | (simp; omega)
            · intro j hj
              by_cases e : j = i
              · subst e; exact Pg.ext' (by simp_all) (by simp_all) (by simp_all)
              · exact g1 j (by omega)
        · try simp at g43
          refine q_f rfl ?_
          refine q_f rfl ?_
          refine q_f rfl ?_
          refine q_f rfl ?_
          refine q_f rfl ?_
          refine q_f rfl ?_
          refine q_f rfl ?_
          refine q_f rfl ?_
          refine q_f rfl ?_
          refine q_f rfl ?_
          refine q_f rfl ?_
          refine q_f rfl ?_
          refine q_pick_t rfl rfl ?_
          refine rg_nil ?_
          refine VS_cond rfl (fun _ => ?_) (fun e => by cases e)
          refine VS_seq ?_
          refine VS_r0 rfl ?_
          refine q_mv rfl ?_
          refine rg_nil ?_
          refine VS_ret ?_
          refine Bd.now ⟨_, rfl, congrArg PV.bool (decide_eq_false fun e => ?_).symm⟩
          subst e; simp_all
      · try simp at g29
        refine q_f rfl ?_
        refine q_f rfl ?_
        refine q_f rfl ?_
        refine q_f rfl ?_
        refine q_f rfl ?_
        refine q_f rfl ?_
        refine q_f rfl ?_
        refine q_f rfl ?_
        refine q_f rfl ?_
        refine q_f rfl ?_
        refine q_f rfl ?_
        refine q_f rfl ?_
        refine q_pick_t rfl rfl ?_
        refine q_mv rfl ?_
        refine q_f rfl ?_
        refine q_f rfl ?_
        refine q_f rfl ?_
        refine q_f rfl ?_
        refine q_f rfl ?_
        refine q_f rfl ?_
        refine q_f rfl ?_
        refine q_f rfl ?_
        refine q_f rfl ?_
        refine q_f rfl ?_
        refine q_f rfl ?_
        refine q_f rfl ?_
        refine q_pick_t rfl rfl ?_
        refine rg_nil ?_
        refine VS_cond rfl (fun _ => ?_) (fun e => by cases e)
        refine VS_seq ?_
        refine VS_r0 rfl ?_
        refine q_mv rfl ?_
        refine rg_nil ?_
        refine VS_ret ?_
        refine Bd.now ⟨_, rfl, congrArg PV.bool (decide_eq_false fun e => ?_).symm⟩
        subst e; simp_all
    · try simp at c1
      refine VS_exit ?_
      refine VS_seq ?_
      refine VS_r0 rfl ?_
      refine q_mv rfl ?_
      refine rg_nil ?_
      refine VS_ret ?_
      exact Bd.now ⟨_, rfl, congrArg PV.bool (decide_eq_true (list_ext_nth (by omega) fun j hj => g1 j (by omega))).symm⟩
theorem sl_laws_equalTree : slimF prog 32 = some (17, (.seq (.reg 0 (.op ⟨some 2, none, .box 53 2 (.t 0)⟩ (.op ⟨some 3, none, .box 53 2 (.t 1)⟩ (.op ⟨some 4, none, .mv (.c (.pv (.bool false)))⟩ .nil)))) (.seq (.reg 0 (.op ⟨some 5, none, .fld 0 1 false (.t 2)⟩ (.op ⟨some 6, none, .load 1 false (.t 5)⟩ (.op ⟨some 7, none, .fld 0 1 false (.t 3)⟩ (.op ⟨some 8, none, .load 1 false (.t 7)⟩ (.op ⟨some 9, none, .bin .eql (.t 6) (.t 8)⟩ (.op ⟨some 10, none, .mv (.t 9)⟩ (.op ⟨some 11, some (10, true), .fld 1 1 false (.t 2)⟩ (.op ⟨some 12, some (10, true), .load 1 false (.t 11)⟩ (.op ⟨some 13, some (10, true), .fld 1 1 false (.t 3)⟩ (.op ⟨some 14, some (10, true), .load 1 false (.t 13)⟩ (.op ⟨some 15, some (10, true), .call 73 [.t 12, .t 14]⟩ (.op ⟨some 16, none, .pick (.t 10) (.t 15) (.c (.pv (.bool false)))⟩ (.op ⟨some 4, none, .mv (.t 16)⟩ .nil)))))))))))))) .ret), [.t 4])) := by kernel_rfl
theorem c_laws_equalTree (a b : Pt) (ha : smallT a) (hb : smallT b) : PCon prog 32 [ptP a, ptP b] (fun p => p = .bool (decide (a = b))) := by
  refine con_of_VS sl_laws_equalTree (by simp) ?_
  refine VS_seq ?_
  refine VS_r0 rfl ?_
  refine q_box rfl rfl rfl trivial ?_
  refine q_box rfl rfl rfl trivial ?_
  refine q_mv rfl ?_
  refine rg_nil ?_
  refine VS_seq ?_
  refine VS_r0 rfl ?_
  first | refine q_fld_r rfl ?_ | refine q_fld_c rfl rfl ?_
  first | refine q_load_c rfl rfl rfl ?_ | refine q_load_r rfl rfl rfl rfl rfl rfl rfl ?_ | refine q_load_o rfl rfl rfl rfl rfl ?_
  first | refine q_fld_r rfl ?_ | refine q_fld_c rfl rfl ?_
  first | refine q_load_c rfl rfl rfl ?_ | refine q_load_r rfl rfl rfl rfl rfl rfl rfl ?_ | refine q_load_o rfl rfl rfl rfl rfl ?_
  refine q_eql rfl rfl ?_
  refine q_mv rfl ?_
  refine q_b rfl (fun g10 => ?_) (fun g10 => ?_)
  · try simp at g10
    refine q_t rfl ?_
    first | refine q_fld_r rfl ?_ | refine q_fld_c rfl rfl ?_
    refine q_t rfl ?_
    first | refine q_load_c rfl rfl rfl ?_ | refine q_load_r rfl rfl rfl rfl rfl rfl rfl ?_ | refine q_load_o rfl rfl rfl rfl rfl ?_
    refine q_t rfl ?_
    first | refine q_fld_r rfl ?_ | refine q_fld_c rfl rfl ?_
    refine q_t rfl ?_
    first | refine q_load_c rfl rfl rfl ?_ | refine q_load_r rfl rfl rfl rfl rfl rfl rfl ?_ | refine q_load_o rfl rfl rfl rfl rfl ?_
    refine q_t rfl ?_
    refine q_callp (c_laws_equalPages a.ps b.ps ha.smG hb.smG) rfl trivial ?_
    refine q_pick_t rfl rfl ?_
    refine q_mv rfl ?_
    refine rg_nil ?_
    refine VS_ret ?_
    refine Bd.now ⟨_, rfl, ?_⟩
    rw [pt_eq]
    simp_all
  · try simp at g10
    refine q_f rfl ?_
    refine q_f rfl ?_
    refine q_f rfl ?_
    refine q_f rfl ?_
    refine q_f rfl ?_
    refine q_pick_f rfl rfl ?_
    refine q_mv rfl ?_
    refine rg_nil ?_
    refine VS_ret ?_
    refine Bd.now ⟨_, rfl, ?_⟩
    rw [pt_eq]
    simp_all
theorem sl_spec_DrawLoadTree : slimF prog 29 = some (6, (.seq (.reg 0 (.op ⟨some 2, none, .mv (.c .nils)⟩ .nil)) (.seq (.reg 0 (.op ⟨some 3, none, .mv (.t 0)⟩ (.op ⟨some 4, none, .call 41 [.t 3]⟩ (.op ⟨some 5, none, .call 42 [.t 4]⟩ (.op ⟨some 2, none, .mv (.t 5)⟩ .nil))))) .ret), [.t 2])) := by kernel_rfl
theorem c_spec_DrawLoadTree (bs : List Int) (hb : isU8 bs) (hl : bs.length ≤ 1048576) : PCon prog 29 [u8s bs] (fun p => ∃ (xs : List (Int × Int)), p = prs xs ∧ (xs.length ≤ 25 ∧ bdP 2000 xs)) := by
  refine con_of_VS sl_spec_DrawLoadTree (by simp) ?_
  refine VS_seq ?_
  refine VS_r0 rfl ?_
  refine q_mv rfl ?_
  refine rg_nil ?_
  refine VS_seq ?_
  refine VS_r0 rfl ?_
  refine q_mv rfl ?_
  refine q_newRd rfl (c_spec_newReader _ hb hl) rfl (fun _ => trivial) ?_
  rintro bs ⟨hb, hbl⟩
  refine q_rdn rfl (c_spec_anyRow bs hb hbl _ (by omega) (by omega)) (fun _ _ => rfl) rfl rfl (fun _ _ => trivial) ?_
  rintro xs q5 ⟨⟨hx1, hx2⟩, hq1, hq2⟩
  refine q_mv rfl ?_
  refine rg_nil ?_
  refine VS_ret ?_
  refine Bd.pureB 2 1 25 2 (xs := dP xs) rfl rfl (toPVs_dP _) ?_
  exact Bd.now ⟨_, rfl, xs, rfl, hx1, hx2⟩
end Go.V
