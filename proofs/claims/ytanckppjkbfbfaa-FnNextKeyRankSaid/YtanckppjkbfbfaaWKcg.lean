/- A part of the proofs about laws of the page tree (see the text that bears the law): a small language of steps, its rules, and what the functions of the program return. -/
import Derived.Test.YtanckppjkbfbfaaWKbn
import Derived.Test.YtanckppjkbfbfaaQS
set_option linter.all false
set_option linter.unusedVariables false
set_option linter.unusedSimpArgs false
set_option maxHeartbeats 4000000
namespace Go.V
open Go.Proofs.Try (prog)
theorem zcg (os : List Nat) : ∀ i, i < 0 → os[i]? = some i := fun i hi => absurd hi (Nat.not_lt_zero i)
set_option maxRecDepth 100000
theorem sl_spec_treeKeys : slimF prog 39 = some (10, (.seq (.reg 0 (.o 1 (.box 25 2 (.t 0)) (.o 2 (.mv (.c .nils)) .nil))) (.seq (.seq (.reg 0 (.o 3 (.load 2 true (.t 1)) (.o 4 (.call 42 [.t 3]) (.o 5 (.not (.t 4)) .nil)))) (.cond (.t 5) (.seq (.reg 0 (.o 6 (.lit 3 1 0 [.pv (.int .i64 0)] []) (.o 2 (.mv (.t 6)) .nil))) .ret) .skip)) (.seq (.reg 0 (.o 7 (.load 2 true (.t 1)) (.o 8 (.call 50 [.t 7]) (.o 9 (.call 49 [.t 8]) (.o 2 (.mv (.t 9)) .nil))))) .ret)), [.t 2])) := by kernel_rfl
theorem c_spec_treeKeys (t : Pt) (hs : smallT t) : PCon prog 39 [ptP t] (fun p => p = ints (keysR (prV t))) := by
 have hpl := prV_len (t := t)
 have hkl := keysV_len (t := t)
 have hkp : (keysR (prV t)).length = (prV t).length := List.length_map ..
 refine con_of_VS sl_spec_treeKeys (by simp) (VS_seq (VS_r0 rfl (q_box rfl rfl rfl trivial (q_mv rfl (rg_nil (VS_seq (VS_seq (VS_r0 rfl (q_load_ra rfl rfl rfl rfl rfl (by (simp; done)) rfl (q_callp (c_spec_validTree t hs) rfl trivial (q_not rfl (rg_nil ?_))))))))))))
 refine VS_cond rfl (fun c0 => ?_) (fun c0 => ?_)
 ·try simp at c0
  have hv : validT t = false := by simpa using c0
  refine VS_seq (VS_r0 rfl (q_lit0 (q_mv rfl (rg_nil (VS_ret ?_)))))
  exact Bd.now ⟨_, rfl, by rw [prV_not hv]; rfl⟩
 ·try simp at c0
  have hv : validT t = true := by simpa using c0
  have hvf := valid_facts hv
  refine VS_skip (VS_seq (VS_r0 rfl (q_load_ra rfl rfl rfl rfl rfl (by (simp; done)) rfl (q_callp ((c_spec_pairsOf t hs (hgtT t) hvf.wk (by have := hvf.n16; omega) (valid_safe hv).rows (by have := prV_len (t := t); rw [prV, if_pos hv] at this; omega)).to (y := prs (prV t)) (by rw [prV, if_pos hv])) rfl trivial (q_callp (c_spec_keysOf (prV t) (by omega)) rfl trivial (q_mv rfl (rg_nil (VS_ret ?_))))))))
  exact Bd.now ⟨_, rfl, rfl⟩
theorem sl_spec_DrawPathTo : slimF prog 14 = some (15, (.seq (.reg 0 (.o 2 (.alloc 25 2 (.agg [.pv (.int .i64 0), .nils])) (.o 3 (.mv (.c (.pv (.int .i64 0)))) .nil))) (.seq (.reg 0 (.o 6 (.mv (.t 0)) (.o 7 (.call 36 [.t 6]) (.o 4 (.mv (.t 7)) .nil)))) (.seq (.reg 0 (.o 8 (.mv (.t 4)) (.o 9 (.call 37 [.t 8]) (.o 5 (.alloc 25 2 (.agg [.pv (.int .i64 0), .nils])) (.op ⟨none, none, .store 2 (.t 5) (.t 9)⟩ .nil))))) (.seq (.reg 2 (.o 10 (.load 2 true (.t 5)) (.o 11 (.mv (.t 4)) (.o 12 (.load 2 true (.t 5)) (.o 13 (.call 39 [.t 12]) (.o 14 (.call 38 [.t 11, .t 13]) (.op ⟨none, none, .store 2 (.t 2) (.t 10)⟩ (.o 3 (.mv (.t 14)) .nil)))))))) .ret))), [.c 2 2, .t 3])) := by kernel_rfl
theorem c_spec_DrawPathTo (bs : List Int) (hb : isU8 bs) (hl : bs.length ≤ 1048576) : PCon prog 14 [u8s bs] (fun p => ∃ (t : Pt) (k : Int), p = .tup [ptP t, i64 k] ∧ AnyT t ∧ -1000000001 ≤ k ∧ k ≤ 1000000001) := by
 refine con_of_VS sl_spec_DrawPathTo (by simp) (VS_seq (VS_r0 rfl (q_alloc trivial (q_mv rfl (rg_nil (VS_seq (VS_r0 rfl (q_mv rfl ?_))))))))
 refine q_newRd rfl (c_spec_newReader _ hb hl) rfl (fun _ => trivial) ?_
 rintro bs ⟨hb, hbl⟩
 refine q_mv rfl (rg_nil (VS_seq (VS_r0 rfl (q_mv rfl ?_))))
 refine q_rd rfl (c_spec_anyTree bs hb hbl _ (by omega) (by omega)) rfl rfl (fun _ => trivial) ?_
 rintro _ q9 ⟨t, rfl, ha, hq1, hq2⟩
 refine q_alloc trivial (q_store rfl rfl rfl rfl rfl rfl ⟨rfl, rfl, by simp, rfl, by simp [isOne]⟩ rfl trivial (rg_nil ?_))
 have hkl := keysV_len (t := t)
 refine VS_seq (VS_r2 [none, none, some ⟨25, 2, [.agg [.pv (i64 t.r), .pv (pgsP t.ps)]]⟩] hmix (SubL.sub (by repeat constructor)) (q_load_ra rfl rfl rfl rfl rfl (by (simp; done)) rfl (q_mv rfl (q_load_ra rfl rfl rfl rfl rfl (by (simp; done)) rfl (q_callp (c_spec_treeKeys t ha.small) rfl (SubL.sub (by repeat constructor)) ?_)))))
 refine q_rd rfl (c_spec_keyNear bs hb hbl _ (by omega) (keysR (prV t)) (by omega) keysV_bd (by omega)) rfl rfl (fun _ => (SubL.sub (by repeat constructor))) ?_
 rintro _ q14 ⟨k, rfl, qvk, ⟨hq3, hq4⟩⟩
 refine q_store rfl rfl rfl rfl rfl rfl ⟨rfl, rfl, by simp, rfl, by simp [isOne]⟩ rfl (SubL.sub (by repeat constructor)) (q_mv rfl (rg_nil (VS_ret ?_)))
 exact Bd.now ⟨_, rfl, t, k, rfl, ha, qvk⟩
theorem sl_spec_DrawNextKey : slimF prog 33 = some (8, (.seq (.reg 0 (.o 2 (.alloc 25 2 (.agg [.pv (.int .i64 0), .nils])) (.o 3 (.mv (.c (.pv (.int .i64 0)))) .nil))) (.seq (.reg 0 (.o 4 (.mv (.t 0)) (.o 5 (.call 14 [.t 4]) (.o 6 (.ext (.t 5) 0) (.o 7 (.ext (.t 5) 1) (.op ⟨none, none, .store 2 (.t 2) (.t 6)⟩ (.o 3 (.mv (.t 7)) .nil))))))) .ret), [.c 2 2, .t 3])) := by kernel_rfl
theorem c_spec_DrawNextKey (bs : List Int) (hb : isU8 bs) (hl : bs.length ≤ 1048576) : PCon prog 33 [u8s bs] (fun p => ∃ (t : Pt) (k : Int), p = .tup [ptP t, i64 k] ∧ AnyT t ∧ -1000000001 ≤ k ∧ k ≤ 1000000001) := by
 refine con_of_VS sl_spec_DrawNextKey (by simp) (VS_seq (VS_r0 rfl (q_alloc trivial (q_mv rfl (rg_nil (VS_seq (VS_r0 rfl (q_mv rfl (q_calle rfl (c_spec_DrawPathTo bs hb (by omega)) rfl trivial ?_)))))))))
 rintro _ ⟨t, k, rfl, ha, qvk⟩
 refine q_ext rfl rfl (q_ext rfl rfl (q_store rfl rfl rfl rfl rfl rfl ⟨rfl, rfl, by simp, rfl, by simp [isOne]⟩ rfl trivial (q_mv rfl (rg_nil (VS_ret ?_)))))
 exact Bd.now ⟨_, rfl, t, k, rfl, ha, qvk⟩
theorem sl_spec_DrawRankOf : slimF prog 22 = some (8, (.seq (.reg 0 (.o 2 (.alloc 25 2 (.agg [.pv (.int .i64 0), .nils])) (.o 3 (.mv (.c (.pv (.int .i64 0)))) .nil))) (.seq (.reg 0 (.o 4 (.mv (.t 0)) (.o 5 (.call 14 [.t 4]) (.o 6 (.ext (.t 5) 0) (.o 7 (.ext (.t 5) 1) (.op ⟨none, none, .store 2 (.t 2) (.t 6)⟩ (.o 3 (.mv (.t 7)) .nil))))))) .ret), [.c 2 2, .t 3])) := by kernel_rfl
theorem c_spec_DrawRankOf (bs : List Int) (hb : isU8 bs) (hl : bs.length ≤ 1048576) : PCon prog 22 [u8s bs] (fun p => ∃ (t : Pt) (k : Int), p = .tup [ptP t, i64 k] ∧ AnyT t ∧ -1000000001 ≤ k ∧ k ≤ 1000000001) := by
 refine con_of_VS sl_spec_DrawRankOf (by simp) (VS_seq (VS_r0 rfl (q_alloc trivial (q_mv rfl (rg_nil (VS_seq (VS_r0 rfl (q_mv rfl (q_calle rfl (c_spec_DrawPathTo bs hb (by omega)) rfl trivial ?_)))))))))
 rintro _ ⟨t, k, rfl, ha, qvk⟩
 refine q_ext rfl rfl (q_ext rfl rfl (q_store rfl rfl rfl rfl rfl rfl ⟨rfl, rfl, by simp, rfl, by simp [isOne]⟩ rfl trivial (q_mv rfl (rg_nil (VS_ret ?_)))))
 exact Bd.now ⟨_, rfl, t, k, rfl, ha, qvk⟩
theorem sl_impl_RankOf : slimF prog 23 = some (13, (.seq (.reg 0 (.o 2 (.box 25 2 (.t 0)) (.o 4 (.mv (.c (.pv (.int .i64 0)))) .nil))) (.seq (.seq (.reg 0 (.o 5 (.load 2 true (.t 2)) (.o 6 (.call 31 [.t 5]) (.o 7 (.not (.t 6)) .nil)))) (.cond (.t 7) (.seq (.reg 0 (.o 4 (.mv (.c (.pv (.int .i64 (-1))))) .nil)) .ret) .skip)) (.seq (.reg 0 (.o 8 (.load 2 true (.t 2)) (.o 9 (.call 26 [.t 8]) (.o 10 (.call 47 [.t 9]) (.o 11 (.mv (.t 1)) (.o 12 (.call 46 [.t 10, .t 11]) (.o 4 (.mv (.t 12)) .nil))))))) .ret)), [.t 4])) := by kernel_rfl
theorem c_impl_RankOf (t : Pt) (hs : smallT t) (k : Int) : PCon prog 23 [ptP t, i64 k] (fun p => p = i64 (if validT t then ((upTo (keysR (prV t)) (k - 1) : Nat) : Int) else -1)) := by
 have hpl := prV_len (t := t)
 have hkl := keysV_len (t := t)
 have hkp : (keysR (prV t)).length = (prV t).length := List.length_map ..
 refine con_of_VS sl_impl_RankOf (by simp) (VS_seq (VS_r0 rfl (q_box rfl rfl rfl trivial (q_mv rfl (rg_nil (VS_seq (VS_seq (VS_r0 rfl (q_load_ra rfl rfl rfl rfl rfl (by (simp; done)) rfl (q_callp (c_impl_ValidTree t hs) rfl trivial (q_not rfl (rg_nil ?_))))))))))))
 refine VS_cond rfl (fun c0 => ?_) (fun c0 => ?_)
 ·try simp at c0
  have hv : validT t = false := by simpa using c0
  refine VS_seq (VS_r0 rfl (q_mv rfl (rg_nil (VS_ret ?_))))
  exact Bd.now ⟨_, rfl, by rw [hv]; rfl⟩
 ·try simp at c0
  have hv : validT t = true := by simpa using c0
  have hkg := keys_good hv
  refine VS_skip (VS_seq (VS_r0 rfl (q_load_ra rfl rfl rfl rfl rfl (by (simp; done)) rfl (q_callp (c_impl_PairsOf t hs) rfl trivial (q_callp (c_impl_keysOfRow (prV t) (by omega)) rfl trivial (q_mv rfl (q_callp ((c_impl_KeysBelow (keysR (prV t)) k (by omega)).to (y := i64 ((upTo (keysR (prV t)) (k - 1) : Nat) : Int)) (by rw [if_pos hkg])) rfl trivial (q_mv rfl (rg_nil (VS_ret ?_))))))))))
  exact Bd.now ⟨_, rfl, by rw [if_pos hv]⟩
theorem sl_spec_RankOf : slimF prog 24 = some (13, (.seq (.reg 0 (.o 2 (.box 25 2 (.t 0)) (.o 4 (.mv (.c (.pv (.int .i64 0)))) .nil))) (.seq (.seq (.reg 0 (.o 5 (.load 2 true (.t 2)) (.o 6 (.call 42 [.t 5]) (.o 7 (.not (.t 6)) .nil)))) (.cond (.t 7) (.seq (.reg 0 (.o 4 (.mv (.c (.pv (.int .i64 (-1))))) .nil)) .ret) .skip)) (.seq (.reg 0 (.o 8 (.load 2 true (.t 2)) (.o 9 (.call 50 [.t 8]) (.o 10 (.call 49 [.t 9]) (.o 11 (.mv (.t 1)) (.o 12 (.call 48 [.t 10, .t 11]) (.o 4 (.mv (.t 12)) .nil))))))) .ret)), [.t 4])) := by kernel_rfl
theorem c_spec_RankOf (t : Pt) (hs : smallT t) (k : Int) : PCon prog 24 [ptP t, i64 k] (fun p => p = i64 (if validT t then ((upTo (keysR (prV t)) (k - 1) : Nat) : Int) else -1)) := by
 have hpl := prV_len (t := t)
 have hkl := keysV_len (t := t)
 have hkp : (keysR (prV t)).length = (prV t).length := List.length_map ..
 refine con_of_VS sl_spec_RankOf (by simp) (VS_seq (VS_r0 rfl (q_box rfl rfl rfl trivial (q_mv rfl (rg_nil (VS_seq (VS_seq (VS_r0 rfl (q_load_ra rfl rfl rfl rfl rfl (by (simp; done)) rfl (q_callp (c_spec_validTree t hs) rfl trivial (q_not rfl (rg_nil ?_))))))))))))
 refine VS_cond rfl (fun c0 => ?_) (fun c0 => ?_)
 ·try simp at c0
  have hv : validT t = false := by simpa using c0
  refine VS_seq (VS_r0 rfl (q_mv rfl (rg_nil (VS_ret ?_))))
  exact Bd.now ⟨_, rfl, by rw [hv]; rfl⟩
 ·try simp at c0
  have hv : validT t = true := by simpa using c0
  have hvf := valid_facts hv
  refine VS_skip (VS_seq (VS_r0 rfl (q_load_ra rfl rfl rfl rfl rfl (by (simp; done)) rfl (q_callp ((c_spec_pairsOf t hs (hgtT t) hvf.wk (by have := hvf.n16; omega) (valid_safe hv).rows (by have := prV_len (t := t); rw [prV, if_pos hv] at this; omega)).to (y := prs (prV t)) (by rw [prV, if_pos hv])) rfl trivial (q_callp (c_spec_keysOf (prV t) (by omega)) rfl trivial (q_mv rfl (q_callp (c_spec_below (keysR (prV t)) k (by omega)) rfl trivial (q_mv rfl (rg_nil (VS_ret ?_))))))))))
  exact Bd.now ⟨_, rfl, by rw [if_pos hv]⟩
theorem sl_impl_NextKey : slimF prog 34 = some (21, (.seq (.reg 0 (.o 2 (.box 25 2 (.t 0)) (.o 4 (.mv (.c (.pv (.int .i64 0)))) .nil))) (.seq (.seq (.reg 0 (.o 7 (.load 2 true (.t 2)) (.o 8 (.call 26 [.t 7]) (.o 9 (.len (.t 8)) (.o 10 (.mv (.c (.pv (.int .i64 0)))) .nil))))) (.block 0 (.loop (.seq (.reg 0 (.o 11 (.bin .lss (.t 10) (.t 9)) .nil)) (.seq (.cond (.t 11) .skip (.exit 0)) (.seq (.block 1 (.seq (.reg 0 (.o 12 (.idx 2 (.t 8) (.t 10)) (.o 13 (.load 2 true (.t 12)) (.o 6 (.alloc 47 2 (.agg [.pv (.int .i64 0), .pv (.int .i64 0)])) (.op ⟨none, none, .store 2 (.t 6) (.t 13)⟩ .nil))))) (.seq (.reg 0 (.o 14 (.fld 0 1 false (.t 6)) (.o 15 (.load 1 false (.t 14)) (.o 16 (.mv (.t 1)) (.o 17 (.bin .gtr (.t 15) (.t 16)) .nil))))) (.cond (.t 17) (.seq (.reg 0 (.o 18 (.fld 0 1 false (.t 6)) (.o 19 (.load 1 false (.t 18)) (.o 4 (.mv (.t 19)) .nil)))) .ret) .skip)))) (.reg 0 (.o 20 (.bin .add (.t 10) (.c (.pv (.int .i64 1)))) (.o 10 (.mv (.t 20)) .nil))))))))) (.seq (.reg 0 (.o 4 (.mv (.c (.pv (.int .i64 (-1))))) .nil)) .ret)), [.t 4])) := by kernel_rfl
theorem c_impl_NextKey (t : Pt) (hs : smallT t) (k : Int) : PCon prog 34 [ptP t, i64 k] (fun p => p = i64 (nxtK (keysR (prV t)) k)) := by
 have hpl := prV_len (t := t)
 have hkl := keysV_len (t := t)
 have hkp : (keysR (prV t)).length = (prV t).length := List.length_map ..
 refine con_of_VS sl_impl_NextKey (by simp) (VS_seq (VS_r0 rfl (q_box rfl rfl rfl trivial (q_mv rfl (rg_nil (VS_seq (VS_seq (VS_r0 rfl (q_load_ra rfl rfl rfl rfl rfl (by (simp; done)) rfl (q_callp (c_impl_PairsOf t hs) rfl trivial (q_len_m rfl (q_mv rfl (rg_nil (VS_block ?_))))))))))))))
 refine VS_bd (Bd.keepL [(1, .pv (i64 k)), (2, .ptr 0 0 0), (8, .pv (prs (prV t))), (9, .pv (i64 (prV t).length)), (10, .pv (i64 0))] ⟨rfl, rfl, rfl, rfl, rfl, trivial⟩ ?_)
 refine VS_loop (fun mz E S => ∃ i : Nat, mz = (prV t).length - i ∧ (i ≤ (prV t).length) ∧ (∀ j, j < i → nth (keysR (prV t)) j ≤ k) ∧ E = env [(1, .pv (i64 k)), (2, .ptr 0 0 0), (8, .pv (prs (prV t))), (9, .pv (i64 (prV t).length)), (10, .pv (i64 i))] ∧ S = [some ⟨25, 2, [.pv (ptP t)]⟩]) ⟨_, 0, rfl, (by omega), (by omega), rfl, rfl⟩ ?_
 rintro mz _ _ ⟨i, hmeas, g0, g1, rfl, rfl⟩
 refine VS_seq (VS_r0 rfl (q_lss rfl rfl (rg_nil (VS_seq ?_))))
 refine VS_cond rfl (fun c0 => ?_) (fun c0 => ?_)
 ·try simp at c0
  refine VS_skip (VS_seq (VS_block (VS_seq (VS_r0 rfl (q_idx_m (f := pairP) (xs := prV t) (n := (i : Int)) rfl rfl (by omega) (by omega) (fun _ => rfl) ?_)))))
  rw [Int.toNat_natCast]
  refine q_load_c rfl rfl rfl (q_alloc trivial (q_store rfl rfl rfl rfl rfl rfl ⟨rfl, rfl, by simp, rfl, by simp [isOne]⟩ rfl trivial (rg_nil (VS_seq (VS_r0 rfl (q_fld_r rfl (q_load_r rfl rfl rfl rfl rfl rfl rfl (q_mv rfl (q_gtr rfl rfl (rg_nil ?_))))))))))
  refine VS_cond rfl (fun c1 => ?_) (fun c1 => ?_)
  ·try simp at c1
   refine VS_seq (VS_r0 rfl (q_fld_r rfl (q_load_r rfl rfl rfl rfl rfl rfl rfl (q_mv rfl (rg_nil (VS_ret ?_))))))
   have e := nxtK_at (K := keysR (prV t)) (k := k) (i := i) (by omega) g1 (by rw [keysR_nth' (by omega)]; omega)
   rw [keysR_nth' (by omega)] at e
   exact Bd.now ⟨_, rfl, by rw [e]⟩
  ·try simp at c1
   refine VS_skip (VS_r0 rfl (q_add rfl rfl (inR64 (by omega)) (q_mv rfl (rg_nil ?_))))
   refine Bd.renL [0] (zcg _) (by simp) [(1, .pv (i64 k)), (2, .ptr 0 0 0), (8, .pv (prs (prV t))), (9, .pv (i64 (prV t).length)), (10, .pv (i64 (i + 1)))] ⟨rfl, rfl, rfl, rfl, rfl, trivial⟩ (l1 rfl) ⟨_, ?_, i + 1, rfl, ?_, ?_, rfl, rfl⟩
   ·omega
   ·omega
   ·intro j hj
    by_cases e : j = i
    ·subst e; rw [keysR_nth' (by omega)]; omega
    ·exact g1 j (by omega)
 ·try simp at c0
  refine VS_exit (VS_seq (VS_r0 rfl (q_mv rfl (rg_nil (VS_ret ?_)))))
  have e := nxtK_none (K := keysR (prV t)) (k := k) (fun j hj => g1 j (by omega))
  exact Bd.now ⟨_, rfl, by rw [e]⟩
theorem sl_spec_NextKey : slimF prog 35 = some (24, (.seq (.reg 0 (.o 2 (.box 25 2 (.t 0)) (.o 4 (.mv (.c (.pv (.int .i64 0)))) .nil))) (.seq (.seq (.reg 0 (.o 7 (.load 2 true (.t 2)) (.o 8 (.call 42 [.t 7]) (.o 9 (.not (.t 8)) .nil)))) (.cond (.t 9) (.seq (.reg 0 (.o 4 (.mv (.c (.pv (.int .i64 (-1))))) .nil)) .ret) .skip)) (.seq (.reg 0 (.o 10 (.load 2 true (.t 2)) (.o 11 (.call 50 [.t 10]) (.o 12 (.call 49 [.t 11]) (.o 5 (.mv (.t 12)) .nil))))) (.seq (.reg 0 (.o 13 (.mv (.t 5)) (.o 14 (.mv (.t 1)) (.o 15 (.call 55 [.t 13, .t 14]) (.o 6 (.mv (.t 15)) .nil))))) (.seq (.seq (.reg 0 (.o 16 (.mv (.t 6)) (.o 17 (.mv (.t 5)) (.o 18 (.len (.t 17)) (.o 19 (.bin .eql (.t 16) (.t 18)) .nil))))) (.cond (.t 19) (.seq (.reg 0 (.o 4 (.mv (.c (.pv (.int .i64 (-1))))) .nil)) .ret) .skip)) (.seq (.reg 0 (.o 20 (.mv (.t 5)) (.o 21 (.mv (.t 6)) (.o 22 (.idx 1 (.t 20) (.t 21)) (.o 23 (.load 1 false (.t 22)) (.o 4 (.mv (.t 23)) .nil)))))) .ret))))), [.t 4])) := by kernel_rfl
theorem c_spec_NextKey (t : Pt) (hs : smallT t) (k : Int) : PCon prog 35 [ptP t, i64 k] (fun p => p = i64 (nxtK (keysR (prV t)) k)) := by
 have hpl := prV_len (t := t)
 have hkl := keysV_len (t := t)
 have hkp : (keysR (prV t)).length = (prV t).length := List.length_map ..
 refine con_of_VS sl_spec_NextKey (by simp) (VS_seq (VS_r0 rfl (q_box rfl rfl rfl trivial (q_mv rfl (rg_nil (VS_seq (VS_seq (VS_r0 rfl (q_load_ra rfl rfl rfl rfl rfl (by (simp; done)) rfl (q_callp (c_spec_validTree t hs) rfl trivial (q_not rfl (rg_nil ?_))))))))))))
 refine VS_cond rfl (fun c0 => ?_) (fun c0 => ?_)
 ·try simp at c0
  have hv : validT t = false := by simpa using c0
  refine VS_seq (VS_r0 rfl (q_mv rfl (rg_nil (VS_ret ?_))))
  exact Bd.now ⟨_, rfl, by rw [prV_not hv]; rfl⟩
 ·try simp at c0
  have hv : validT t = true := by simpa using c0
  have hvf := valid_facts hv
  have hul := upTo_le (keysR (prV t)) k
  refine VS_skip (VS_seq (VS_r0 rfl (q_load_ra rfl rfl rfl rfl rfl (by (simp; done)) rfl (q_callp ((c_spec_pairsOf t hs (hgtT t) hvf.wk (by have := hvf.n16; omega) (valid_safe hv).rows (by have := prV_len (t := t); rw [prV, if_pos hv] at this; omega)).to (y := prs (prV t)) (by rw [prV, if_pos hv])) rfl trivial (q_callp (c_spec_keysOf (prV t) (by omega)) rfl trivial (q_mv rfl (rg_nil (VS_seq (VS_r0 rfl (q_mv rfl (q_mv rfl (q_callp (c_spec_upTo (keysR (prV t)) k (by omega)) rfl trivial (q_mv rfl (rg_nil (VS_seq ?_)))))))))))))))
  refine VS_seq (VS_r0 rfl (q_mv rfl (q_mv rfl (q_len_m rfl (q_eql rfl rfl (rg_nil ?_))))))
  refine VS_cond rfl (fun c1 => ?_) (fun c1 => ?_)
  ·try simp at c1
   refine VS_seq (VS_r0 rfl (q_mv rfl (rg_nil (VS_ret ?_))))
   exact Bd.now ⟨_, rfl, by rw [nxtK, if_neg (by omega)]⟩
  ·try simp at c1
   refine VS_skip (VS_seq (VS_r0 rfl (q_mv rfl (q_mv rfl (q_idx_m (f := fun k => i64 k) (xs := keysR (prV t)) (n := ((upTo (keysR (prV t)) k : Nat) : Int)) rfl rfl (by omega) (by omega) (fun _ => rfl) ?_)))))
   rw [Int.toNat_natCast]
   refine q_load_c rfl rfl rfl (q_mv rfl (rg_nil (VS_ret ?_)))
   exact Bd.now ⟨_, rfl, by rw [nxtK, if_pos (by omega)]⟩
end Go.V
