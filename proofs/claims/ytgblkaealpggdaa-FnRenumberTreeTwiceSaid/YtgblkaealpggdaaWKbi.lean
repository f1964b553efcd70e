/- A part of the proofs about laws of the page tree (see the text that bears the law): a small language of steps, its rules, and what the functions of the program return. -/
import Derived.Test.YtgblkaealpggdaaWKbh
import Derived.Test.YtgblkaealpggdaaQG
set_option linter.all false
set_option linter.unusedVariables false
set_option linter.unusedSimpArgs false
set_option maxHeartbeats 4000000
namespace Go.V
open Go.Proofs.Try (prog)
theorem zbi (os : List Nat) : ∀ i, i < 0 → os[i]? = some i := fun i hi => absurd hi (Nat.not_lt_zero i)
set_option maxRecDepth 100000
theorem sl_spec_cutPage : slimF prog 112 = some (67, (.seq (.reg 0 (.o 2 (.box 39 2 (.t 0)) (.o 4 (.alloc 39 2 (.agg [.pv (.int .i64 0), .nils])) .nil))) (.seq (.reg 3 (.o 9 (.fld 0 1 false (.t 2)) (.o 10 (.load 1 false (.t 9)) (.o 11 (.fld 0 1 false (.t 2)) (.o 12 (.load 1 false (.t 11)) (.o 13 (.mv (.t 1)) (.o 14 (.bin .gtr (.t 12) (.t 13)) (.o 15 (.call 73 [.t 14]) (.o 16 (.bin .sub (.t 10) (.t 15)) (.o 17 (.lit 25 3 0 [.nils, .nils, .nils] []) (.o 18 (.build [.pv (.int .i64 0), .nils] [(0, (1, .t 16)), (1, (1, .t 17))]) (.o 5 (.alloc 39 2 (.agg [.pv (.int .i64 0), .nils])) (.last ⟨none, none, .store 2 (.t 5) (.t 18)⟩))))))))))))) (.seq (.seq (.reg 0 (.o 6 (.mv (.c (.pv (.int .i64 0)))) .nil)) (.block 0 (.loop (.seq (.seq (.reg 0 (.o 19 (.mv (.t 6)) (.o 20 (.fld 1 1 false (.t 2)) (.o 21 (.load 1 false (.t 20)) (.o 22 (.len (.t 21)) (.o 23 (.bin .lss (.t 19) (.t 22)) .nil)))))) (.cond (.t 23) .skip (.exit 0))) (.seq (.block 1 (.seq (.seq (.reg 0 (.o 26 (.mv (.t 6)) (.o 27 (.mv (.t 1)) (.o 28 (.bin .eql (.t 26) (.t 27)) .nil)))) (.cond (.t 28) (.exit 1) .skip)) (.seq (.reg 0 (.o 29 (.fld 1 1 false (.t 2)) (.o 30 (.load 1 false (.t 29)) (.o 31 (.mv (.t 6)) (.o 32 (.idx 3 (.t 30) (.t 31)) (.o 33 (.load 3 true (.t 32)) (.o 34 (.call 89 [.t 33]) (.o 7 (.alloc 25 3 (.agg [.nils, .nils, .nils])) (.op ⟨none, none, .store 3 (.t 7) (.t 34)⟩ .nil))))))))) (.seq (.seq (.reg 0 (.o 8 (.mv (.c (.pv (.int .i64 0)))) .nil)) (.block 2 (.loop (.seq (.seq (.reg 0 (.o 35 (.mv (.t 8)) (.o 36 (.fld 1 1 false (.t 7)) (.o 37 (.load 1 false (.t 36)) (.o 38 (.len (.t 37)) (.o 39 (.bin .lss (.t 35) (.t 38)) .nil)))))) (.cond (.t 39) .skip (.exit 2))) (.seq (.block 3 (.reg 2 (.o 42 (.fld 1 1 false (.t 7)) (.o 43 (.load 1 false (.t 42)) (.o 44 (.mv (.t 8)) (.o 45 (.fld 1 1 false (.t 7)) (.o 46 (.load 1 false (.t 45)) (.o 47 (.mv (.t 8)) (.o 48 (.idx 1 (.t 46) (.t 47)) (.o 49 (.load 1 false (.t 48)) (.o 50 (.fld 1 1 false (.t 7)) (.o 51 (.load 1 false (.t 50)) (.o 52 (.mv (.t 8)) (.o 53 (.idx 1 (.t 51) (.t 52)) (.o 54 (.load 1 false (.t 53)) (.o 55 (.mv (.t 1)) (.o 56 (.bin .gtr (.t 54) (.t 55)) (.o 57 (.call 73 [.t 56]) (.o 58 (.bin .sub (.t 49) (.t 57)) (.o 59 (.idx 1 (.t 43) (.t 44)) (.last ⟨none, none, .store 1 (.t 59) (.t 58)⟩))))))))))))))))))))) (.reg 0 (.o 40 (.mv (.t 8)) (.o 41 (.bin .add (.t 40) (.c (.pv (.int .i64 1)))) (.o 8 (.mv (.t 41)) .nil))))))))) (.reg 0 (.o 60 (.fld 1 1 false (.t 5)) (.o 61 (.load 1 false (.t 60)) (.o 62 (.load 3 true (.t 7)) (.o 63 (.lit 25 3 1 [.nils, .nils, .nils] [(0, .t 62)]) (.o 64 (.app 25 3 72 (.t 61) (.t 63)) (.o 65 (.fld 1 1 false (.t 5)) (.op ⟨none, none, .store 1 (.t 65) (.t 64)⟩ .nil)))))))))))) (.reg 0 (.o 24 (.mv (.t 6)) (.o 25 (.bin .add (.t 24) (.c (.pv (.int .i64 1)))) (.o 6 (.mv (.t 25)) .nil))))))))) (.seq (.reg 0 (.o 66 (.load 2 true (.t 5)) (.op ⟨none, none, .store 2 (.t 4) (.t 66)⟩ .nil))) .ret))), [.c 4 2])) := by kernel_rfl
theorem c_spec_cutPage (t : Pt) (g : Int) (hg : -10 ≤ g ∧ g ≤ 1000) (ho : CutOK t) : CallS prog 112 [.pv (ptP t), .pv (i64 g)] [] (fun d S => ∃ T, d = treeD 0 (cutT t g) ∧ S = obD 25 3 (dG (cutT t g).ps) :: T) := by
 have hmany := ho.many
 have hr := ho.r
 refine callS_of_VS sl_spec_cutPage (by simp) (VS_seq (VS_r0 rfl (q_box rfl rfl rfl trivial (q_alloc trivial (rg_nil (VS_seq (VS_r3 _ hmix (Sub.refl _) (q_fld_r rfl (q_load_r rfl rfl rfl rfl rfl rfl rfl (q_fld_r rfl (q_load_r rfl rfl rfl rfl rfl rfl rfl (q_mv rfl (q_gtr rfl rfl (q_callp (c_spec_toInt _) rfl (Sub.refl _) (q_sub_to (cutC g t.r) rfl rfl rfl (inR64 (by have := cutC_le (g := g) hr; omega)) ?_)))))))))))))))
 refine q_lit0 (q_build rfl (q_alloc (Sub.app _ _) (q_last (q_store rfl rfl rfl rfl rfl rfl ⟨rfl, rfl, by simp, rfl, by simp [isOne]⟩ rfl trivial (rg_nil (VS_seq (VS_seq (VS_r0 rfl (q_mv rfl (rg_nil (VS_block ?_)))))))))))
 refine VS_bd (Bd.pad ?_)
 refine VS_bd (Bd.keepL [(1, .pv (i64 g)), (2, .ptr 0 0 0), (4, .ptr 1 0 0), (5, .ptr 2 0 0), (6, .pv (i64 0))] ⟨rfl, rfl, rfl, rfl, rfl, trivial⟩ ?_)
 refine VS_loop (fun mz E S => ∃ i : Nat, ∃ ps : List Pg, mz = t.ps.length - i ∧ (i ≤ t.ps.length) ∧ (ps = cutUp g t.ps i) ∧ (ps.length ≤ i) ∧ E = env [(1, .pv (i64 g)), (2, .ptr 0 0 0), (4, .ptr 1 0 0), (5, .ptr 2 0 0), (6, .pv (i64 i))] ∧ S = [some ⟨39, 2, [.pv (ptP t)]⟩, some ⟨39, 2, [.agg [.pv (i64 0), .nils]]⟩, some ⟨39, 2, [.agg [.pv (i64 (cutC g t.r)), ownD 3 (dG ps)]]⟩, obD 25 3 (dG ps)]) ⟨_, 0, [], rfl, (by omega), rfl, (Nat.le_refl _), rfl, rfl⟩ ?_
 rintro mz _ _ ⟨i, ps, hmeas, g0, g1, g2, rfl, rfl⟩
 refine VS_seq (VS_seq (VS_r0 rfl (q_mv rfl (q_fld_r rfl (q_load_r rfl rfl rfl rfl rfl rfl rfl (q_len_m rfl (q_lss rfl rfl (rg_nil ?_))))))))
 refine VS_cond rfl (fun c0 => ?_) (fun c0 => ?_)
 ·try simp at c0
  have hsz := ho.small i (by omega)
  refine VS_skip (VS_seq (VS_block (VS_seq (VS_seq (VS_r0 rfl (q_mv rfl (q_mv rfl (q_eql rfl rfl (rg_nil ?_)))))))))
  refine VS_cond rfl (fun c1 => ?_) (fun c1 => ?_)
  ·try simp at c1
   refine VS_exit (VS_r0 rfl (q_mv rfl (q_add rfl rfl (inR64 (by omega)) (q_mv rfl (rg_nil ?_)))))
   refine Bd.keepL [(1, .pv (i64 g)), (2, .ptr 0 0 0), (4, .ptr 1 0 0), (5, .ptr 2 0 0), (6, .pv (i64 (i + 1)))] ⟨rfl, rfl, rfl, rfl, rfl, trivial⟩ ⟨_, ?_, i + 1, ps, rfl, ?_, ?_, ?_, rfl, rfl⟩
   ·omega
   ·omega
   ·rw [cutUp_no (by assumption), g1]
   ·omega
  ·try simp at c1
   refine VS_skip (VS_seq (VS_r0 rfl (q_fld_r rfl (q_load_r rfl rfl rfl rfl rfl rfl rfl (q_mv rfl (q_idx_m (f := pgP) (xs := t.ps) (n := (i : Int)) rfl rfl (by omega) (by omega) (fun _ => rfl) (q_load_c rfl rfl rfl ?_)))))))
   refine q_newX (mk := fun o => pgQ o (nth t.ps i)) rfl (show NewX prog 89 3 [pgP (nth t.ps i)] (fun o => pgQ o (nth t.ps i)) (nth t.ps i).cs from c_spec_copyPage_c (nth t.ps i) (by omega)) (pgQ_mp rfl) pgQ_fw (by repeat (first | exact trivial | refine ⟨.inl rfl, ?_⟩ | refine ⟨.inr ⟨_, rfl, rfl⟩, ?_⟩)) trivial ?_
   refine q_alloc trivial (q_store rfl rfl rfl rfl rfl rfl ⟨rfl, rfl, by simp, by simp [setAt, isCell_own, isCell_sl, isCell_int, isCell_nils], by simp [isOne]⟩ rfl trivial (rg_nil (VS_seq (VS_seq (VS_r0 rfl (q_mv rfl (rg_nil (VS_block ?_))))))))
   refine VS_bd (Bd.keepL [(1, .pv (i64 g)), (2, .ptr 0 0 0), (4, .ptr 1 0 0), (5, .ptr 2 0 0), (6, .pv (i64 i)), (7, .ptr 5 0 0), (8, .pv (i64 0))] ⟨rfl, rfl, rfl, rfl, rfl, rfl, rfl, trivial⟩ ?_)
   refine VS_loop (fun mz E S => ∃ k : Nat, mz = (nth t.ps i).cs.length - k ∧ (k ≤ (nth t.ps i).cs.length) ∧ E = env [(1, .pv (i64 g)), (2, .ptr 0 0 0), (4, .ptr 1 0 0), (5, .ptr 2 0 0), (6, .pv (i64 i)), (7, .ptr 5 0 0), (8, .pv (i64 k))] ∧ S = [some ⟨39, 2, [.pv (ptP t)]⟩, some ⟨39, 2, [.agg [.pv (i64 0), .nils]]⟩, some ⟨39, 2, [.agg [.pv (i64 (cutC g t.r)), ownD 3 (dG ps)]]⟩, obD 25 3 (dG ps), obD 3 1 (dI (cutK g (nth t.ps i).cs k)), some ⟨25, 3, [.agg [.pv (ints (nth t.ps i).ks), ownD 4 (dI (cutK g (nth t.ps i).cs k)), .pv (ints (nth t.ps i).vs)]]⟩]) ⟨_, 0, rfl, (by omega), rfl, rfl⟩ ?_
   rintro mz _ _ ⟨k, hmeas, k0, rfl, rfl⟩
   refine VS_seq (VS_seq (VS_r0 rfl (q_mv rfl (q_fld_r rfl (q_load_o rfl rfl rfl rfl rfl (q_len_dm rfl ?_))))))
   rw [cutK_len]
   refine q_lss rfl rfl (rg_nil ?_)
   refine VS_cond rfl (fun c2 => ?_) (fun c2 => ?_)
   ·try simp at c2
    have hkc := ho.kids i (by omega) _ (nth_mem (xs := (nth t.ps i).cs) (i := k) (by omega))
    refine VS_skip (VS_seq (VS_block (VS_r2 _ hmix (Sub.refl _) (q_fld_r rfl (q_load_o rfl rfl rfl rfl rfl (q_mv rfl (q_fld_r rfl (q_load_o rfl rfl rfl rfl rfl (q_mv rfl (q_idx_dm (f := fun k => .pv (i64 k)) (ty := 3) (xs := (cutK g (nth t.ps i).cs k)) (n := (k : Int)) rfl rfl (by omega) (by rw [cutK_len]; omega) rfl ?_))))))))))
    rw [Int.toNat_natCast]
    refine q_load_d (ty := 3) (xs := (cutK g (nth t.ps i).cs k)) rfl rfl (by rw [cutK_len]; omega) rfl rfl rfl ?_
    rw [cutK_at (by omega)]
    refine q_fld_r rfl (q_load_o rfl rfl rfl rfl rfl (q_mv rfl (q_idx_dm (f := fun k => .pv (i64 k)) (ty := 3) (xs := (cutK g (nth t.ps i).cs k)) (n := (k : Int)) rfl rfl (by omega) (by rw [cutK_len]; omega) rfl ?_)))
    rw [Int.toNat_natCast]
    refine q_load_d (ty := 3) (xs := (cutK g (nth t.ps i).cs k)) rfl rfl (by rw [cutK_len]; omega) rfl rfl rfl ?_
    rw [cutK_at (by omega)]
    refine q_mv rfl (q_gtr rfl rfl (q_callp (c_spec_toInt _) rfl (Sub.refl _) (q_sub_to (cutC g (nth (nth t.ps i).cs k)) rfl rfl rfl (inR64 (by have := cutC_le (g := g) hkc; omega)) (q_idx_dm (f := fun k => .pv (i64 k)) (ty := 3) (xs := (cutK g (nth t.ps i).cs k)) (n := (k : Int)) rfl rfl (by omega) (by rw [cutK_len]; omega) rfl ?_))))
    rw [Int.toNat_natCast]
    refine q_last (q_store_d (ty := 3) (xs := (cutK g (nth t.ps i).cs k)) (v := cutC g (nth (nth t.ps i).cs k)) rfl rfl rfl (by rw [cutK_len]; omega) trivial (rg_nil (VS_r0 rfl (q_mv rfl (q_add rfl rfl (inR64 (by omega)) (q_mv rfl (rg_nil ?_)))))))
    refine Bd.keepL [(1, .pv (i64 g)), (2, .ptr 0 0 0), (4, .ptr 1 0 0), (5, .ptr 2 0 0), (6, .pv (i64 i)), (7, .ptr 5 0 0), (8, .pv (i64 (k + 1)))] ⟨rfl, rfl, rfl, rfl, rfl, rfl, rfl, trivial⟩ ⟨_, ?_, k + 1, rfl, ?_, rfl, (l6 rfl rfl rfl rfl (by rw [← cutK_step (by omega)]) (congrArg (fun z => some (⟨25, 3, [.agg [.pv (ints (nth t.ps i).ks), z, .pv (ints (nth t.ps i).vs)]]⟩ : Ob)) (ownD_len (by simp [cutK_len]))))⟩
    ·omega
    ·omega
   ·try simp at c2
    refine VS_exit ?_
    refine VS_bd (Bd.frzF 4 5 0 1 3 1 (xs := dI (cutK g (nth t.ps i).cs k)) (by decide) rfl (toPVs_dI _) rfl rfl rfl ?_)
    refine VS_r0 rfl (q_fld_r rfl (q_load_o rfl rfl rfl rfl rfl (q_load_ra rfl rfl rfl rfl rfl (by (simp; done)) rfl (q_lit (xs := [pgP ⟨(nth t.ps i).ks, (cutK g (nth t.ps i).cs k), (nth t.ps i).vs⟩]) rfl rfl rfl rfl (q_app_dm (xs := ps) (ys := [(⟨(nth t.ps i).ks, (cutK g (nth t.ps i).cs k), (nth t.ps i).vs⟩ : Pg)]) (f := fun p => .pv (pgP p)) rfl rfl rfl rfl ⟨by simp; omega, by simp; omega⟩ trivial (q_fld_r rfl (q_storeF rfl rfl rfl rfl rfl (by (simp; done)) trivial (rg_nil (VS_r0 rfl (q_mv rfl (q_add rfl rfl (inR64 (by omega)) (q_mv rfl (rg_nil ?_)))))))))))))
    refine Bd.renL [0, 1, 2, 6] (zbi _) (by simp) [(1, .pv (i64 g)), (2, .ptr 0 0 0), (4, .ptr 1 0 0), (5, .ptr 2 0 0), (6, .pv (i64 (i + 1)))] ⟨rfl, rfl, rfl, rfl, rfl, trivial⟩ (l4 rfl rfl (congrArg (fun z => some (⟨39, 2, [.agg [.pv (i64 (cutC g t.r)), z]]⟩ : Ob)) (mp1_own rfl)) (obD_mG _)) ⟨_, ?_, i + 1, ps ++ [⟨(nth t.ps i).ks, (cutK g (nth t.ps i).cs k), (nth t.ps i).vs⟩], rfl, ?_, ?_, ?_, rfl, rfl⟩
    ·omega
    ·omega
    ·rw [cutUp_yes (by assumption), g1, show k = (nth t.ps i).cs.length by omega, cutK_all]; rfl
    ·simp; omega
 ·try simp at c0
  refine VS_exit (VS_seq (VS_r0 rfl (q_load_ra rfl rfl rfl rfl rfl (by (simp; done)) rfl (q_store rfl rfl rfl rfl rfl rfl ⟨rfl, rfl, by simp, by simp [setAt, isCell_own, isCell_sl, isCell_int, isCell_nils], by simp [isOne]⟩ rfl trivial (rg_nil (VS_ret ?_))))))
  have e : i = t.ps.length := by omega
  have e2 : cutT t g = ⟨cutC g t.r, ps⟩ := by rw [cutT, g1, e]
  refine Bd.renL (S' := [obD 25 3 (dG ps), some ⟨39, 2, [.agg [.pv (i64 (cutC g t.r)), ownD 0 (dG ps)]]⟩]) [3, 1] (zbi _) (by simp) [(4, .ptr 1 0 0)] ⟨rfl, trivial⟩ (l2 (obD_mG _) (congrArg (fun z => some (⟨39, 2, [.agg [.pv (i64 (cutC g t.r)), z]]⟩ : Ob)) (mp1_own rfl))) ?_
  exact ⟨_, rfl, _, by rw [e2], by rw [e2]⟩
end Go.V
