/- A part of the proofs about laws of the page tree (see the text that bears the law): a small language of steps, its rules, and what the functions of the program return. -/
import Derived.Test.YtanckppjkbfbfaaWKbn
import Derived.Test.YtanckppjkbfbfaaQS
set_option linter.all false
set_option linter.unusedVariables false
set_option linter.unusedSimpArgs false
set_option maxHeartbeats 4000000
namespace Go.V
open Go.Proofs.Try (prog)
theorem zcg (os : List Nat) : ∀ i, i < 0 → os[i]? = some i := fun i hi => absurd hi (Nat.not_lt_zero i)
set_option maxRecDepth 100000
theorem sl_spec_treeKeys : slimF prog 39 = some (10, (.seq (.reg 0 (.o 1 (.box 25 2 (.t 0)) (.o 2 (.mv (.c .nils)) .nil))) (.seq (.seq (.reg 0 (.o 3 (.load 2 true (.t 1)) (.o 4 (.call 42 [.t 3]) (.o 5 (.not (.t 4)) .nil)))) (.cond (.t 5) (.seq (.reg 0 (.o 6 (.lit 3 1 0 [.pv (.int .i64 0)] []) (.o 2 (.mv (.t 6)) .nil))) .ret) .skip)) (.seq (.reg 0 (.o 7 (.load 2 true (.t 1)) (.o 8 (.call 50 [.t 7]) (.o 9 (.call 49 [.t 8]) (.o 2 (.mv (.t 9)) .nil))))) .ret)), [.t 2])) := by kernel_rfl
theorem c_spec_treeKeys (t : Pt) (hs : smallT t) : PCon prog 39 [ptP t] (fun p => p = ints (keysR (prV t))) := by
 have hpl := prV_len (t := t)
 have hkl := keysV_len (t := t)
 have hkp : (keysR (prV t)).length = (prV t).length := List.length_map ..
 refine con_of_VS sl_spec_treeKeys (by simp) (VS_seq (VS_r0 rfl (q_box rfl rfl rfl trivial (q_mv rfl (rg_nil (VS_seq (VS_seq (VS_r0 rfl (q_load_ra rfl rfl rfl rfl rfl (by (simp; done)) rfl (q_callp (c_spec_validTree t hs) rfl trivial (q_not rfl (rg_nil ?_))))))))))))
 refine VS_cond rfl (fun c0 => ?_) (fun c0 => ?_)
 ·try simp at c0
  have hv : validT t = false := by simpa using c0
  refine VS_seq (VS_r0 rfl (q_lit0 (q_mv rfl (rg_nil (VS_ret ?_)))))
  exact Bd.now ⟨_, rfl, by rw [prV_not hv]; rfl⟩
 ·try simp at c0
  have hv : validT t = true := by simpa using c0
  have hvf := valid_facts hv
  refine VS_skip (VS_seq (VS_r0 rfl (q_load_ra rfl rfl rfl rfl rfl (by (simp; done)) rfl (q_callp ((c_spec_pairsOf t hs (hgtT t) hvf.wk (by have := hvf.n16; omega) (valid_safe hv).rows (by have := prV_len (t := t); rw [prV, if_pos hv] at this; omega)).to (y := prs (prV t)) (by rw [prV, if_pos hv])) rfl trivial (q_callp (c_spec_keysOf (prV t) (by omega)) rfl trivial (q_mv rfl (rg_nil (VS_ret ?_))))))))
  exact Bd.now ⟨_, rfl, rfl⟩
theorem sl_spec_DrawScanKeys : slimF prog 27 = some (42, (.seq (.reg 0 (.o 2 (.alloc 25 2 (.agg [.pv (.int .i64 0), .nils])) (.o 3 (.mv (.c (.pv (.int .i64 0)))) (.o 4 (.mv (.c (.pv (.int .i64 0)))) (.o 5 (.mv (.c (.pv (.int .i64 0)))) .nil))))) (.seq (.reg 0 (.o 10 (.mv (.t 0)) (.o 11 (.call 36 [.t 10]) (.o 6 (.mv (.t 11)) .nil)))) (.seq (.reg 0 (.o 12 (.mv (.t 6)) (.o 13 (.call 37 [.t 12]) (.o 7 (.alloc 25 2 (.agg [.pv (.int .i64 0), .nils])) (.op ⟨none, none, .store 2 (.t 7) (.t 13)⟩ .nil))))) (.seq (.reg 0 (.o 14 (.mv (.t 6)) (.o 15 (.load 2 true (.t 7)) (.o 16 (.call 39 [.t 15]) (.o 17 (.call 38 [.t 14, .t 16]) (.o 8 (.mv (.t 17)) .nil)))))) (.seq (.reg 0 (.o 18 (.mv (.t 6)) (.o 19 (.load 2 true (.t 7)) (.o 20 (.call 39 [.t 19]) (.o 21 (.call 38 [.t 18, .t 20]) (.o 9 (.mv (.t 21)) .nil)))))) (.seq (.seq (.reg 0 (.o 22 (.mv (.t 6)) (.o 23 (.call 52 [.t 22, .c (.pv (.int .i64 3))]) (.o 24 (.bin .gtr (.t 23) (.c (.pv (.int .i64 0)))) (.o 25 (.mv (.t 24)) (.g 26 25 true (.mv (.t 9)) (.g 27 25 true (.mv (.t 8)) (.g 28 25 true (.bin .lss (.t 26) (.t 27)) (.o 29 (.pick (.t 25) (.t 28) (.c (.pv (.bool false)))) .nil))))))))) (.cond (.t 29) (.seq (.reg 2 (.o 30 (.load 2 true (.t 7)) (.o 31 (.mv (.t 9)) (.o 32 (.mv (.t 8)) (.o 33 (.mv (.t 6)) (.o 34 (.lit 3 1 6 [.pv (.int .i64 0)] [(0, .c (.pv (.int .i64 3))), (1, .c (.pv (.int .i64 10))), (2, .c (.pv (.int .i64 100))), (3, .c (.pv (.int .i64 1))), (4, .c (.pv (.int .i64 0))), (5, .c (.pv (.int .i64 (-1))))]) (.o 35 (.call 53 [.t 33, .t 34]) (.op ⟨none, none, .store 2 (.t 2) (.t 30)⟩ (.o 3 (.mv (.t 31)) (.o 4 (.mv (.t 32)) (.o 5 (.mv (.t 35)) .nil))))))))))) .ret) .skip)) (.seq (.reg 2 (.o 36 (.load 2 true (.t 7)) (.o 37 (.mv (.t 8)) (.o 38 (.mv (.t 9)) (.o 39 (.mv (.t 6)) (.o 40 (.lit 3 1 6 [.pv (.int .i64 0)] [(0, .c (.pv (.int .i64 3))), (1, .c (.pv (.int .i64 10))), (2, .c (.pv (.int .i64 100))), (3, .c (.pv (.int .i64 1))), (4, .c (.pv (.int .i64 0))), (5, .c (.pv (.int .i64 (-1))))]) (.o 41 (.call 53 [.t 39, .t 40]) (.op ⟨none, none, .store 2 (.t 2) (.t 36)⟩ (.o 3 (.mv (.t 37)) (.o 4 (.mv (.t 38)) (.o 5 (.mv (.t 41)) .nil))))))))))) .ret)))))), [.c 2 2, .t 3, .t 4, .t 5])) := by kernel_rfl
theorem c_spec_DrawScanKeys (bs : List Int) (hb : isU8 bs) (hl : bs.length ≤ 1048576) : PCon prog 27 [u8s bs] (fun p => ∃ (t : Pt) (a b m : Int), p = .tup [ptP t, i64 a, i64 b, i64 m] ∧ AnyT t ∧ (-1000000001 ≤ a ∧ a ≤ 1000000001) ∧ (-1000000001 ≤ b ∧ b ≤ 1000000001) ∧ -1 ≤ m ∧ m ≤ 100) := by
 refine con_of_VS sl_spec_DrawScanKeys (by simp) (VS_seq (VS_r0 rfl (q_alloc trivial (q_mv rfl (q_mv rfl (q_mv rfl (rg_nil (VS_seq (VS_r0 rfl (q_mv rfl ?_))))))))))
 refine q_newRd rfl (c_spec_newReader _ hb hl) rfl (fun _ => trivial) ?_
 rintro bs ⟨hb, hbl⟩
 refine q_mv rfl (rg_nil (VS_seq (VS_r0 rfl (q_mv rfl ?_))))
 refine q_rd rfl (c_spec_anyTree bs hb hbl _ (by omega) (by omega)) rfl rfl (fun _ => trivial) ?_
 rintro _ q13 ⟨t, rfl, ha, hq1, hq2⟩
 refine q_alloc trivial (q_store rfl rfl rfl rfl rfl rfl ⟨rfl, rfl, by simp, rfl, by simp [isOne]⟩ rfl trivial (rg_nil ?_))
 have hkl := keysV_len (t := t)
 refine VS_seq (VS_r0 rfl (q_mv rfl (q_load_ra rfl rfl rfl rfl rfl (by (simp [setAt]; done)) rfl (q_callp (c_spec_treeKeys t ha.small) rfl trivial ?_))))
 refine q_rd rfl (c_spec_keyNear bs hb hbl _ (by omega) (keysR (prV t)) (by omega) keysV_bd (by omega)) rfl rfl (fun _ => trivial) ?_
 rintro _ q17 ⟨a, rfl, qva, ⟨hq3, hq4⟩⟩
 refine q_mv rfl (rg_nil (VS_seq (VS_r0 rfl (q_mv rfl (q_load_ra rfl rfl rfl rfl rfl (by (simp [setAt]; done)) rfl (q_callp (c_spec_treeKeys t ha.small) rfl trivial ?_))))))
 refine q_rd rfl (c_spec_keyNear bs hb hbl _ (by omega) (keysR (prV t)) (by omega) keysV_bd (by omega)) rfl rfl (fun _ => trivial) ?_
 rintro _ q21 ⟨b, rfl, qvb, ⟨hq5, hq6⟩⟩
 refine q_mv rfl (rg_nil (VS_seq (VS_seq (VS_r0 rfl (q_mv rfl ?_)))))
 refine q_rd rfl (c_spec_reader_pick bs hb hbl _ (by omega) 3 (by omega) (by omega)) rfl rfl (fun _ => trivial) ?_
 rintro _ q23 ⟨v, rfl, q_v, rfl⟩
 refine q_gtr rfl rfl (q_mv rfl ?_)
 refine q_b rfl (fun g25 => ?_) (fun g25 => ?_)
 ·try simp at g25
  refine q_t rfl (q_mv rfl (q_t rfl (q_mv rfl (q_t rfl (q_lss rfl rfl (q_pick_t rfl rfl (rg_nil ?_)))))))
  refine VS_cond rfl (fun c0 => ?_) (fun c0 => ?_)
  ·try simp at c0
   refine VS_seq (VS_r2 [none, none, some ⟨25, 2, [.agg [.pv (i64 t.r), .pv (pgsP t.ps)]]⟩] hmix (SubL.sub (by repeat constructor)) (q_load_ra rfl rfl rfl rfl rfl (by (simp; done)) rfl (q_mv rfl (q_mv rfl (q_mv rfl (q_lit (xs := [3, 10, 100, 1, 0, -1].map (.int .i64)) rfl rfl rfl rfl ?_))))))
   refine q_rd rfl (c_spec_reader_one bs hb hbl _ (by omega) [3, 10, 100, 1, 0, -1] (by simp) (by simp) (by omega)) rfl rfl (fun _ => (SubL.sub (by repeat constructor))) ?_
   rintro _ q35 ⟨u, rfl, q_u, rfl⟩
   refine q_store rfl rfl rfl rfl rfl rfl ⟨rfl, rfl, by simp, rfl, by simp [isOne]⟩ rfl (SubL.sub (by repeat constructor)) (q_mv rfl (q_mv rfl (q_mv rfl (rg_nil (VS_ret ?_)))))
   simp only [List.mem_cons, List.not_mem_nil, or_false] at q_u
   exact Bd.now ⟨_, rfl, t, b, a, u, rfl, ha, qvb, qva, by omega⟩
  ·try simp at c0
   refine VS_skip (VS_seq (VS_r2 [none, none, some ⟨25, 2, [.agg [.pv (i64 t.r), .pv (pgsP t.ps)]]⟩] hmix (SubL.sub (by repeat constructor)) (q_load_ra rfl rfl rfl rfl rfl (by (simp; done)) rfl (q_mv rfl (q_mv rfl (q_mv rfl (q_lit (xs := [3, 10, 100, 1, 0, -1].map (.int .i64)) rfl rfl rfl rfl ?_)))))))
   refine q_rd rfl (c_spec_reader_one bs hb hbl _ (by omega) [3, 10, 100, 1, 0, -1] (by simp) (by simp) (by omega)) rfl rfl (fun _ => (SubL.sub (by repeat constructor))) ?_
   rintro _ q41 ⟨u, rfl, q_u, rfl⟩
   refine q_store rfl rfl rfl rfl rfl rfl ⟨rfl, rfl, by simp, rfl, by simp [isOne]⟩ rfl (SubL.sub (by repeat constructor)) (q_mv rfl (q_mv rfl (q_mv rfl (rg_nil (VS_ret ?_)))))
   simp only [List.mem_cons, List.not_mem_nil, or_false] at q_u
   exact Bd.now ⟨_, rfl, t, a, b, u, rfl, ha, qva, qvb, by omega⟩
 ·try simp at g25
  refine q_f rfl (q_f rfl (q_f rfl (q_pick_f rfl rfl (rg_nil ?_))))
  refine VS_cond rfl (fun e => by cases e) (fun _ => ?_)
  refine VS_skip (VS_seq (VS_r2 [none, none, some ⟨25, 2, [.agg [.pv (i64 t.r), .pv (pgsP t.ps)]]⟩] hmix (SubL.sub (by repeat constructor)) (q_load_ra rfl rfl rfl rfl rfl (by (simp; done)) rfl (q_mv rfl (q_mv rfl (q_mv rfl (q_lit (xs := [3, 10, 100, 1, 0, -1].map (.int .i64)) rfl rfl rfl rfl ?_)))))))
  refine q_rd rfl (c_spec_reader_one bs hb hbl _ (by omega) [3, 10, 100, 1, 0, -1] (by simp) (by simp) (by omega)) rfl rfl (fun _ => (SubL.sub (by repeat constructor))) ?_
  rintro _ q41 ⟨u, rfl, q_u, rfl⟩
  refine q_store rfl rfl rfl rfl rfl rfl ⟨rfl, rfl, by simp, rfl, by simp [isOne]⟩ rfl (SubL.sub (by repeat constructor)) (q_mv rfl (q_mv rfl (q_mv rfl (rg_nil (VS_ret ?_)))))
  simp only [List.mem_cons, List.not_mem_nil, or_false] at q_u
  exact Bd.now ⟨_, rfl, t, a, b, u, rfl, ha, qva, qvb, by omega⟩
theorem sl_impl_ScanKeys : slimF prog 28 = some (39, (.seq (.reg 0 (.o 4 (.box 25 2 (.t 0)) (.o 8 (.mv (.c .nils)) .nil))) (.seq (.reg 0 (.o 9 (.mv (.c .nils)) .nil)) (.seq (.seq (.reg 0 (.o 12 (.load 2 true (.t 4)) (.o 13 (.call 26 [.t 12]) (.o 14 (.len (.t 13)) (.o 15 (.mv (.c (.pv (.int .i64 0)))) .nil))))) (.block 0 (.loop (.seq (.reg 0 (.o 16 (.bin .lss (.t 15) (.t 14)) .nil)) (.seq (.cond (.t 16) .skip (.exit 0)) (.seq (.block 1 (.seq (.reg 0 (.o 17 (.idx 2 (.t 13) (.t 15)) (.o 18 (.load 2 true (.t 17)) (.o 11 (.alloc 47 2 (.agg [.pv (.int .i64 0), .pv (.int .i64 0)])) (.op ⟨none, none, .store 2 (.t 11) (.t 18)⟩ .nil))))) (.seq (.seq (.reg 0 (.o 19 (.fld 0 1 false (.t 11)) (.o 20 (.load 1 false (.t 19)) (.o 21 (.mv (.t 1)) (.o 22 (.bin .lss (.t 20) (.t 21)) .nil))))) (.cond (.t 22) (.exit 1) .skip)) (.seq (.seq (.reg 0 (.o 23 (.fld 0 1 false (.t 11)) (.o 24 (.load 1 false (.t 23)) (.o 25 (.mv (.t 2)) (.o 26 (.bin .geq (.t 24) (.t 25)) (.o 27 (.mv (.t 26)) (.g 28 27 false (.mv (.t 9)) (.g 29 27 false (.len (.t 28)) (.g 30 27 false (.mv (.t 3)) (.g 31 27 false (.bin .geq (.t 29) (.t 30)) (.o 32 (.pick (.t 27) (.c (.pv (.bool true))) (.t 31)) .nil))))))))))) (.cond (.t 32) (.exit 0) .skip)) (.reg 0 (.o 33 (.mv (.t 9)) (.o 34 (.load 2 true (.t 11)) (.o 35 (.lit 47 2 1 [.pv (.int .i64 0), .pv (.int .i64 0)] [(0, .t 34)]) (.o 36 (.app 47 2 16 (.t 33) (.t 35)) (.o 9 (.mv (.t 36)) .nil)))))))))) (.reg 0 (.o 37 (.bin .add (.t 15) (.c (.pv (.int .i64 1)))) (.o 15 (.mv (.t 37)) .nil))))))))) (.seq (.reg 0 (.o 38 (.mv (.t 9)) (.o 8 (.mv (.t 38)) .nil))) .ret))), [.t 8])) := by kernel_rfl
theorem c_impl_ScanKeys (t : Pt) (hs : smallT t) (a b m : Int) : PCon prog 28 [ptP t, i64 a, i64 b, i64 m] (fun p => p = prs (scn (prV t) a b m)) := by
 have hpl := prV_len (t := t)
 have hkl := keysV_len (t := t)
 have hkp : (keysR (prV t)).length = (prV t).length := List.length_map ..
 refine con_of_VS sl_impl_ScanKeys (by simp) (VS_seq (VS_r0 rfl (q_box rfl rfl rfl trivial (q_mv rfl (rg_nil (VS_seq (VS_r0 rfl (q_mv rfl (rg_nil (VS_seq (VS_seq (VS_r0 rfl (q_load_ra rfl rfl rfl rfl rfl (by (simp; done)) rfl (q_callp (c_impl_PairsOf t hs) rfl trivial (q_len_m rfl ?_)))))))))))))))
 refine q_mv rfl (rg_nil (VS_block ?_))
 refine VS_bd (Bd.pad ?_)
 refine VS_bd (Bd.keepL [(1, .pv (i64 a)), (2, .pv (i64 b)), (3, .pv (i64 m)), (4, .ptr 0 0 0), (9, ownD 1 (dP ([]))), (13, .pv (prs (prV t))), (14, .pv (i64 (prV t).length)), (15, .pv (i64 0))] ⟨rfl, rfl, rfl, rfl, rfl, rfl, rfl, rfl, trivial⟩ ?_)
 refine VS_loop (fun mz E S => ∃ i : Nat, ∃ xs : List (Int × Int), mz = (prV t).length - i ∧ (i ≤ (prV t).length) ∧ (xs = scnL ((prV t).take i) a b) ∧ (xs.length ≤ m.toNat ∧ xs.length ≤ i) ∧ E = env [(1, .pv (i64 a)), (2, .pv (i64 b)), (3, .pv (i64 m)), (4, .ptr 0 0 0), (9, ownD 1 (dP xs)), (13, .pv (prs (prV t))), (14, .pv (i64 (prV t).length)), (15, .pv (i64 i))] ∧ S = [some ⟨25, 2, [.pv (ptP t)]⟩, obD 47 2 (dP xs)]) ⟨_, 0, [], rfl, (by omega), rfl, (by simp), rfl, rfl⟩ ?_
 rintro mz _ _ ⟨i, xs, hmeas, g0, g1, g2, rfl, rfl⟩
 refine VS_seq (VS_r0 rfl (q_lss rfl rfl (rg_nil (VS_seq ?_))))
 refine VS_cond rfl (fun c0 => ?_) (fun c0 => ?_)
 ·try simp at c0
  refine VS_skip (VS_seq (VS_block (VS_seq (VS_r0 rfl (q_idx_m (f := pairP) (xs := prV t) (n := (i : Int)) rfl rfl (by omega) (by omega) (fun _ => rfl) ?_)))))
  rw [Int.toNat_natCast]
  refine q_load_c rfl rfl rfl (q_alloc trivial (q_store rfl rfl rfl rfl rfl rfl ⟨rfl, rfl, by simp, rfl, by simp [isOne]⟩ rfl trivial (rg_nil (VS_seq (VS_seq (VS_r0 rfl (q_fld_r rfl (q_load_r rfl rfl rfl rfl rfl rfl rfl (q_mv rfl (q_lss rfl rfl (rg_nil ?_)))))))))))
  refine VS_cond rfl (fun c1 => ?_) (fun c1 => ?_)
  ·try simp at c1
   refine VS_exit (VS_r0 rfl (q_add rfl rfl (inR64 (by omega)) (q_mv rfl (rg_nil ?_))))
   refine Bd.renL [0, 1] (zcg _) (by simp) [(1, .pv (i64 a)), (2, .pv (i64 b)), (3, .pv (i64 m)), (4, .ptr 0 0 0), (9, ownD 1 (dP xs)), (13, .pv (prs (prV t))), (14, .pv (i64 (prV t).length)), (15, .pv (i64 (i + 1)))] ⟨rfl, rfl, rfl, rfl, inv_own rfl, rfl, rfl, rfl, trivial⟩ (l2 rfl (obD_mP _)) ⟨_, ?_, i + 1, xs, rfl, ?_, ?_, ?_, rfl, rfl⟩
   ·omega
   ·omega
   ·rw [scnL_no (by omega) (by omega), g1]
   ·omega
  ·try simp at c1
   refine VS_skip (VS_seq (VS_seq (VS_r0 rfl (q_fld_r rfl (q_load_r rfl rfl rfl rfl rfl rfl rfl (q_mv rfl (q_geq rfl rfl (q_mv rfl ?_))))))))
   refine q_b rfl (fun g27 => ?_) (fun g27 => ?_)
   ·try simp at g27
    refine q_t rfl (q_mv rfl (q_t rfl (q_len_dm rfl (q_t rfl (q_mv rfl (q_t rfl (q_geq rfl rfl (q_pick_f rfl rfl (rg_nil ?_)))))))))
    refine VS_cond rfl (fun c2 => ?_) (fun c2 => ?_)
    ·try simp at c2
     refine VS_exit (VS_seq (VS_r0 rfl (q_mv rfl (q_mv rfl (rg_nil (VS_ret ?_))))))
     have e : xs = scn (prV t) a b m := by first | exact scn_end g1 g2.1 (by omega) | exact scn_stop keysV_good g1 g2.1 (by omega) (by omega) | exact scn_part g1 g2.1 (by omega)
     refine Bd.pureB 8 1 47 2 (xs := dP xs) rfl rfl (toPVs_dP _) ?_
     exact Bd.now ⟨_, rfl, by rw [e]⟩
    ·try simp at c2
     refine VS_skip (VS_r0 rfl (q_mv rfl (q_load_ra rfl rfl rfl rfl rfl (by (simp [setAt]; done)) rfl (q_lit (xs := [pairP (nth (prV t) i)]) rfl rfl rfl rfl (q_app_dm (xs := xs) (ys := [nth (prV t) i]) (f := fun k => .pv (pairP k)) rfl rfl rfl rfl ⟨by simp; omega, by simp; omega⟩ trivial (q_mv rfl (rg_nil (VS_r0 rfl (q_add rfl rfl (inR64 (by omega)) (q_mv rfl (rg_nil ?_)))))))))))
     refine Bd.renL [0, 3] (zcg _) (by simp) [(1, .pv (i64 a)), (2, .pv (i64 b)), (3, .pv (i64 m)), (4, .ptr 0 0 0), (9, ownD 1 (dP (xs ++ [nth (prV t) i]))), (13, .pv (prs (prV t))), (14, .pv (i64 (prV t).length)), (15, .pv (i64 (i + 1)))] ⟨rfl, rfl, rfl, rfl, inv_own rfl, rfl, rfl, rfl, trivial⟩ (l2 rfl (obD_mP _)) ⟨_, ?_, i + 1, xs ++ [nth (prV t) i], rfl, ?_, ?_, ?_, rfl, rfl⟩
     ·omega
     ·omega
     ·rw [scnL_yes (by omega) (by omega) (by omega), g1]
     ·rw [List.length_append, List.length_singleton]; omega
   ·try simp at g27
    refine q_f rfl (q_f rfl (q_f rfl (q_f rfl (q_pick_t rfl rfl (rg_nil ?_)))))
    refine VS_cond rfl (fun _ => ?_) (fun e => by cases e)
    refine VS_exit (VS_seq (VS_r0 rfl (q_mv rfl (q_mv rfl (rg_nil (VS_ret ?_))))))
    have e : xs = scn (prV t) a b m := by first | exact scn_end g1 g2.1 (by omega) | exact scn_stop keysV_good g1 g2.1 (by omega) (by omega) | exact scn_part g1 g2.1 (by omega)
    refine Bd.pureB 8 1 47 2 (xs := dP xs) rfl rfl (toPVs_dP _) ?_
    exact Bd.now ⟨_, rfl, by rw [e]⟩
 ·try simp at c0
  refine VS_exit (VS_seq (VS_r0 rfl (q_mv rfl (q_mv rfl (rg_nil (VS_ret ?_))))))
  have e : xs = scn (prV t) a b m := by first | exact scn_end g1 g2.1 (by omega) | exact scn_stop keysV_good g1 g2.1 (by omega) (by omega) | exact scn_part g1 g2.1 (by omega)
  refine Bd.pureB 8 1 47 2 (xs := dP xs) rfl rfl (toPVs_dP _) ?_
  exact Bd.now ⟨_, rfl, by rw [e]⟩
theorem sl_spec_ScanKeys : slimF prog 30 = some (54, (.seq (.reg 0 (.o 4 (.box 25 2 (.t 0)) (.o 8 (.mv (.c .nils)) .nil))) (.seq (.reg 0 (.o 12 (.lit 47 2 0 [.pv (.int .i64 0), .pv (.int .i64 0)] []) (.o 9 (.mv (.t 12)) .nil))) (.seq (.seq (.reg 0 (.o 13 (.load 2 true (.t 4)) (.o 14 (.call 42 [.t 13]) (.o 15 (.not (.t 14)) .nil)))) (.cond (.t 15) (.seq (.reg 0 (.o 8 (.mv (.c .nils)) .nil)) .ret) .skip)) (.seq (.reg 0 (.o 16 (.load 2 true (.t 4)) (.o 17 (.call 50 [.t 16]) (.o 10 (.mv (.t 17)) .nil)))) (.seq (.seq (.reg 0 (.o 11 (.mv (.c (.pv (.int .i64 0)))) .nil)) (.block 0 (.loop (.seq (.seq (.reg 0 (.o 18 (.mv (.t 11)) (.o 19 (.mv (.t 10)) (.o 20 (.len (.t 19)) (.o 21 (.bin .lss (.t 18) (.t 20)) (.o 22 (.mv (.t 21)) (.g 23 22 true (.mv (.t 9)) (.g 24 22 true (.len (.t 23)) (.g 25 22 true (.mv (.t 3)) (.g 26 22 true (.bin .lss (.t 24) (.t 25)) (.o 27 (.pick (.t 22) (.t 26) (.c (.pv (.bool false)))) .nil))))))))))) (.cond (.t 27) .skip (.exit 0))) (.seq (.block 1 (.seq (.reg 0 (.o 30 (.mv (.t 10)) (.o 31 (.mv (.t 11)) (.o 32 (.idx 2 (.t 30) (.t 31)) (.o 33 (.fld 0 1 false (.t 32)) (.o 34 (.load 1 false (.t 33)) (.o 35 (.mv (.t 1)) (.o 36 (.bin .geq (.t 34) (.t 35)) (.o 37 (.mv (.t 36)) (.g 38 37 true (.mv (.t 10)) (.g 39 37 true (.mv (.t 11)) (.g 40 37 true (.idx 2 (.t 38) (.t 39)) (.g 41 37 true (.fld 0 1 false (.t 40)) (.g 42 37 true (.load 1 false (.t 41)) (.g 43 37 true (.mv (.t 2)) (.g 44 37 true (.bin .lss (.t 42) (.t 43)) (.o 45 (.pick (.t 37) (.t 44) (.c (.pv (.bool false)))) .nil))))))))))))))))) (.cond (.t 45) (.reg 0 (.o 46 (.mv (.t 9)) (.o 47 (.mv (.t 10)) (.o 48 (.mv (.t 11)) (.o 49 (.idx 2 (.t 47) (.t 48)) (.o 50 (.load 2 true (.t 49)) (.o 51 (.lit 47 2 1 [.pv (.int .i64 0), .pv (.int .i64 0)] [(0, .t 50)]) (.o 52 (.app 47 2 16 (.t 46) (.t 51)) (.o 9 (.mv (.t 52)) .nil))))))))) .skip))) (.reg 0 (.o 28 (.mv (.t 11)) (.o 29 (.bin .add (.t 28) (.c (.pv (.int .i64 1)))) (.o 11 (.mv (.t 29)) .nil))))))))) (.seq (.reg 0 (.o 53 (.mv (.t 9)) (.o 8 (.mv (.t 53)) .nil))) .ret))))), [.t 8])) := by kernel_rfl
theorem c_spec_ScanKeys (t : Pt) (hs : smallT t) (a b m : Int) : PCon prog 30 [ptP t, i64 a, i64 b, i64 m] (fun p => p = prs (scn (prV t) a b m)) := by
 have hpl := prV_len (t := t)
 have hkl := keysV_len (t := t)
 have hkp : (keysR (prV t)).length = (prV t).length := List.length_map ..
 refine con_of_VS sl_spec_ScanKeys (by simp) (VS_seq (VS_r0 rfl (q_box rfl rfl rfl trivial (q_mv rfl (rg_nil (VS_seq (VS_r0 rfl (q_lit0 (q_mv rfl (rg_nil (VS_seq (VS_seq (VS_r0 rfl (q_load_ra rfl rfl rfl rfl rfl (by (simp; done)) rfl (q_callp (c_spec_validTree t hs) rfl trivial ?_)))))))))))))))
 refine q_not rfl (rg_nil ?_)
 refine VS_cond rfl (fun c0 => ?_) (fun c0 => ?_)
 ·try simp at c0
  have hv : validT t = false := by simpa using c0
  refine VS_seq (VS_r0 rfl (q_mv rfl (rg_nil (VS_ret ?_))))
  exact Bd.now ⟨_, rfl, by rw [prV_not hv, scn, scnL, List.filter_nil, List.take_nil]; rfl⟩
 ·try simp at c0
  have hv : validT t = true := by simpa using c0
  have hvf := valid_facts hv
  refine VS_skip (VS_seq (VS_r0 rfl (q_load_ra rfl rfl rfl rfl rfl (by (simp; done)) rfl (q_callp ((c_spec_pairsOf t hs (hgtT t) hvf.wk (by have := hvf.n16; omega) (valid_safe hv).rows (by have := prV_len (t := t); rw [prV, if_pos hv] at this; omega)).to (y := prs (prV t)) (by rw [prV, if_pos hv])) rfl trivial (q_mv rfl (rg_nil (VS_seq (VS_seq (VS_r0 rfl (q_mv rfl (rg_nil (VS_block ?_))))))))))))
  refine VS_bd (Bd.pad ?_)
  refine VS_bd (Bd.keepL [(1, .pv (i64 a)), (2, .pv (i64 b)), (3, .pv (i64 m)), (4, .ptr 0 0 0), (9, ownD 1 (dP ([]))), (10, .pv (prs (prV t))), (11, .pv (i64 0))] ⟨rfl, rfl, rfl, rfl, rfl, rfl, rfl, trivial⟩ ?_)
  refine VS_loop (fun mz E S => ∃ i : Nat, ∃ xs : List (Int × Int), mz = (prV t).length - i ∧ (i ≤ (prV t).length) ∧ (xs = scnL ((prV t).take i) a b) ∧ (xs.length ≤ m.toNat ∧ xs.length ≤ i) ∧ E = env [(1, .pv (i64 a)), (2, .pv (i64 b)), (3, .pv (i64 m)), (4, .ptr 0 0 0), (9, ownD 1 (dP xs)), (10, .pv (prs (prV t))), (11, .pv (i64 i))] ∧ S = [some ⟨25, 2, [.pv (ptP t)]⟩, obD 47 2 (dP xs)]) ⟨_, 0, [], rfl, (by omega), rfl, (by simp), rfl, rfl⟩ ?_
  rintro mz _ _ ⟨i, xs, hmeas, g0, g1, g2, rfl, rfl⟩
  refine VS_seq (VS_seq (VS_r0 rfl (q_mv rfl (q_mv rfl (q_len_m rfl (q_lss rfl rfl (q_mv rfl ?_)))))))
  refine q_b rfl (fun g22 => ?_) (fun g22 => ?_)
  ·try simp at g22
   refine q_t rfl (q_mv rfl (q_t rfl (q_len_dm rfl (q_t rfl (q_mv rfl (q_t rfl (q_lss rfl rfl (q_pick_t rfl rfl (rg_nil ?_)))))))))
   refine VS_cond rfl (fun c1 => ?_) (fun c1 => ?_)
   ·try simp at c1
    refine VS_skip (VS_seq (VS_block (VS_seq (VS_r0 rfl (q_mv rfl (q_mv rfl (q_idx_m (f := pairP) (xs := prV t) (n := (i : Int)) rfl rfl (by omega) (by omega) (fun _ => rfl) ?_)))))))
    rw [Int.toNat_natCast]
    refine q_fld_c rfl rfl (q_load_c rfl rfl rfl (q_mv rfl (q_geq rfl rfl (q_mv rfl ?_))))
    refine q_b rfl (fun g37 => ?_) (fun g37 => ?_)
    ·try simp at g37
     refine q_t rfl (q_mv rfl (q_t rfl (q_mv rfl (q_t rfl (q_idx_m (f := pairP) (xs := prV t) (n := (i : Int)) rfl rfl (by omega) (by omega) (fun _ => rfl) ?_)))))
     rw [Int.toNat_natCast]
     refine q_t rfl (q_fld_c rfl rfl (q_t rfl (q_load_c rfl rfl rfl (q_t rfl (q_mv rfl (q_t rfl (q_lss rfl rfl (q_pick_t rfl rfl (rg_nil ?_)))))))))
     refine VS_cond rfl (fun c2 => ?_) (fun c2 => ?_)
     ·try simp at c2
      refine VS_r0 rfl (q_mv rfl (q_mv rfl (q_mv rfl (q_idx_m (f := pairP) (xs := prV t) (n := (i : Int)) rfl rfl (by omega) (by omega) (fun _ => rfl) ?_))))
      rw [Int.toNat_natCast]
      refine q_load_c rfl rfl rfl (q_lit (xs := [pairP (nth (prV t) i)]) rfl rfl rfl rfl (q_app_dm (xs := xs) (ys := [nth (prV t) i]) (f := fun k => .pv (pairP k)) rfl rfl rfl rfl ⟨by simp; omega, by simp; omega⟩ trivial (q_mv rfl (rg_nil (VS_r0 rfl (q_mv rfl (q_add rfl rfl (inR64 (by omega)) (q_mv rfl (rg_nil ?_)))))))))
      refine Bd.renL [0, 2] (zcg _) (by simp) [(1, .pv (i64 a)), (2, .pv (i64 b)), (3, .pv (i64 m)), (4, .ptr 0 0 0), (9, ownD 1 (dP (xs ++ [nth (prV t) i]))), (10, .pv (prs (prV t))), (11, .pv (i64 (i + 1)))] ⟨rfl, rfl, rfl, rfl, inv_own rfl, rfl, rfl, trivial⟩ (l2 rfl (obD_mP _)) ⟨_, ?_, i + 1, xs ++ [nth (prV t) i], rfl, ?_, ?_, ?_, rfl, rfl⟩
      ·omega
      ·omega
      ·rw [scnL_yes (by omega) (by omega) (by omega), g1]
      ·rw [List.length_append, List.length_singleton]; omega
     ·try simp at c2
      refine VS_skip (VS_r0 rfl (q_mv rfl (q_add rfl rfl (inR64 (by omega)) (q_mv rfl (rg_nil ?_)))))
      refine Bd.renL [0, 1] (zcg _) (by simp) [(1, .pv (i64 a)), (2, .pv (i64 b)), (3, .pv (i64 m)), (4, .ptr 0 0 0), (9, ownD 1 (dP xs)), (10, .pv (prs (prV t))), (11, .pv (i64 (i + 1)))] ⟨rfl, rfl, rfl, rfl, inv_own rfl, rfl, rfl, trivial⟩ (l2 rfl (obD_mP _)) ⟨_, ?_, i + 1, xs, rfl, ?_, ?_, ?_, rfl, rfl⟩
      ·omega
      ·omega
      ·rw [scnL_no (by omega) (by omega), g1]
      ·omega
    ·try simp at g37
     refine q_f rfl (q_f rfl (q_f rfl (q_f rfl (q_f rfl (q_f rfl (q_f rfl (q_pick_f rfl rfl (rg_nil ?_))))))))
     refine VS_cond rfl (fun e => by cases e) (fun _ => ?_)
     refine VS_skip (VS_r0 rfl (q_mv rfl (q_add rfl rfl (inR64 (by omega)) (q_mv rfl (rg_nil ?_)))))
     refine Bd.renL [0, 1] (zcg _) (by simp) [(1, .pv (i64 a)), (2, .pv (i64 b)), (3, .pv (i64 m)), (4, .ptr 0 0 0), (9, ownD 1 (dP xs)), (10, .pv (prs (prV t))), (11, .pv (i64 (i + 1)))] ⟨rfl, rfl, rfl, rfl, inv_own rfl, rfl, rfl, trivial⟩ (l2 rfl (obD_mP _)) ⟨_, ?_, i + 1, xs, rfl, ?_, ?_, ?_, rfl, rfl⟩
     ·omega
     ·omega
     ·rw [scnL_no (by omega) (by omega), g1]
     ·omega
   ·try simp at c1
    refine VS_exit (VS_seq (VS_r0 rfl (q_mv rfl (q_mv rfl (rg_nil (VS_ret ?_))))))
    have e : xs = scn (prV t) a b m := by first | exact scn_end g1 g2.1 (by omega) | exact scn_part g1 g2.1 (by omega) | (by_cases hh : i = (prV t).length; exact scn_end g1 g2.1 (by omega); exact scn_part g1 g2.1 (by omega))
    refine Bd.pureB 8 1 47 2 (xs := dP xs) rfl rfl (toPVs_dP _) ?_
    exact Bd.now ⟨_, rfl, by rw [e]⟩
  ·try simp at g22
   refine q_f rfl (q_f rfl (q_f rfl (q_f rfl (q_pick_f rfl rfl (rg_nil ?_)))))
   refine VS_cond rfl (fun e => by cases e) (fun _ => ?_)
   refine VS_exit (VS_seq (VS_r0 rfl (q_mv rfl (q_mv rfl (rg_nil (VS_ret ?_))))))
   have e : xs = scn (prV t) a b m := by first | exact scn_end g1 g2.1 (by omega) | exact scn_part g1 g2.1 (by omega) | (by_cases hh : i = (prV t).length; exact scn_end g1 g2.1 (by omega); exact scn_part g1 g2.1 (by omega))
   refine Bd.pureB 8 1 47 2 (xs := dP xs) rfl rfl (toPVs_dP _) ?_
   exact Bd.now ⟨_, rfl, by rw [e]⟩
end Go.V
