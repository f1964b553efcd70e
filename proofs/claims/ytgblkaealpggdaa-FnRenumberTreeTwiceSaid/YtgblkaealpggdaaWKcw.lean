/- A part of the proofs about laws of the page tree (see the text that bears the law): a small language of steps, its rules, and what the functions of the program return. -/
import Derived.Test.YtgblkaealpggdaaWKbg
import Derived.Test.YtgblkaealpggdaaWKcu
set_option linter.all false
set_option linter.unusedVariables false
set_option linter.unusedSimpArgs false
set_option maxHeartbeats 4000000
namespace Go.V
open Go.Proofs.Try (prog)
theorem zcw (os : List Nat) : ∀ i, i < 0 → os[i]? = some i := fun i hi => absurd hi (Nat.not_lt_zero i)
set_option maxRecDepth 100000
theorem sl_spec_renumber : slimF prog 56 [(6, 4)] = some (54, (.seq (.reg 0 (.o 1 (.box 39 2 (.t 0)) (.o 2 (.alloc 39 2 (.agg [.pv (.int .i64 0), .nils])) .nil))) (.seq (.reg 0 (.o 8 (.lit 25 3 0 [.nils, .nils, .nils] []) (.o 9 (.build [.pv (.int .i64 0), .nils] [(1, (1, .t 8))]) (.o 3 (.alloc 39 2 (.agg [.pv (.int .i64 0), .nils])) (.op ⟨none, none, .store 2 (.t 3) (.t 9)⟩ .nil))))) (.seq (.reg 0 (.o 10 (.load 2 true (.t 1)) (.o 11 (.fld 0 1 false (.t 1)) (.o 12 (.load 1 false (.t 11)) (.o 13 (.call 86 [.t 10, .t 12]) (.o 4 (.mv (.t 13)) .nil)))))) (.seq (.seq (.reg 0 (.o 5 (.mv (.c (.pv (.int .i64 0)))) .nil)) (.block 0 (.loop (.seq (.seq (.reg 0 (.o 14 (.mv (.t 5)) (.o 15 (.mv (.t 4)) (.o 16 (.len (.t 15)) (.o 17 (.bin .lss (.t 14) (.t 16)) .nil))))) (.cond (.t 17) .skip (.exit 0))) (.seq (.block 1 (.seq (.reg 2 (.o 20 (.fld 1 1 false (.t 1)) (.o 21 (.load 1 false (.t 20)) (.o 22 (.mv (.t 4)) (.o 23 (.mv (.t 5)) (.o 24 (.idx 1 (.t 22) (.t 23)) (.o 25 (.load 1 false (.t 24)) (.o 26 (.idx 3 (.t 21) (.t 25)) (.o 27 (.load 3 true (.t 26)) (.or (.o 28 (.call 89 [.t 27]) (.o 6 (.alloc 25 3 (.agg [.nils, .nils, .nils])) (.last ⟨none, none, .store 3 (.t 6) (.t 28)⟩))) (.o 6 (.alloc 25 3 (.agg [.nils, .nils, .nils])) (.o 28 (.call 89 [.t 27]) (.last ⟨none, none, .store 3 (.t 6) (.t 28)⟩))))))))))))) (.seq (.seq (.reg 0 (.o 7 (.mv (.c (.pv (.int .i64 0)))) .nil)) (.block 2 (.loop (.seq (.seq (.reg 0 (.o 29 (.mv (.t 7)) (.o 30 (.fld 1 1 false (.t 6)) (.o 31 (.load 1 false (.t 30)) (.o 32 (.len (.t 31)) (.o 33 (.bin .lss (.t 29) (.t 32)) .nil)))))) (.cond (.t 33) .skip (.exit 2))) (.seq (.block 3 (.reg 2 (.o 36 (.fld 1 1 false (.t 6)) (.o 37 (.load 1 false (.t 36)) (.o 38 (.mv (.t 7)) (.o 39 (.mv (.t 4)) (.o 40 (.fld 1 1 false (.t 6)) (.o 41 (.load 1 false (.t 40)) (.o 42 (.mv (.t 7)) (.o 43 (.idx 1 (.t 41) (.t 42)) (.o 44 (.load 1 false (.t 43)) (.o 45 (.call 90 [.t 39, .t 44]) (.o 46 (.idx 1 (.t 37) (.t 38)) (.last ⟨none, none, .store 1 (.t 46) (.t 45)⟩)))))))))))))) (.reg 0 (.o 34 (.mv (.t 7)) (.o 35 (.bin .add (.t 34) (.c (.pv (.int .i64 1)))) (.o 7 (.mv (.t 35)) .nil))))))))) (.reg 0 (.o 47 (.fld 1 1 false (.t 3)) (.o 48 (.load 1 false (.t 47)) (.o 49 (.load 3 true (.t 6)) (.o 50 (.lit 25 3 1 [.nils, .nils, .nils] [(0, .t 49)]) (.o 51 (.app 25 3 72 (.t 48) (.t 50)) (.o 52 (.fld 1 1 false (.t 3)) (.op ⟨none, none, .store 1 (.t 52) (.t 51)⟩ .nil))))))))))) (.reg 0 (.o 18 (.mv (.t 5)) (.o 19 (.bin .add (.t 18) (.c (.pv (.int .i64 1)))) (.o 5 (.mv (.t 19)) .nil))))))))) (.seq (.reg 0 (.o 53 (.load 2 true (.t 3)) (.op ⟨none, none, .store 2 (.t 2) (.t 53)⟩ .nil))) .ret)))), [.c 2 2])) := by kernel_rfl
theorem c_spec_renumber (t : Pt) (hs : smallT t) (hv : validT t = true) : CallS prog 56 [.pv (ptP t)] [] (fun d S => ∃ T, d = treeD 0 (rnT t) ∧ S = obD 25 3 (dG (rnT t).ps) :: T) := by
 have hvf := valid_facts hv
 have hf := ordF hv
 have hwl := hf.len
 have hn1 := hf.n1
 refine callS_of_VS sl_spec_renumber (by simp) (VS_seq (VS_r0 rfl (q_box rfl rfl rfl trivial (q_alloc trivial (rg_nil (VS_seq (VS_r0 rfl (q_lit0 (q_build rfl (q_alloc trivial (q_store rfl rfl rfl rfl rfl rfl ⟨rfl, rfl, by simp, rfl, by simp [isOne]⟩ rfl trivial (rg_nil (VS_seq (VS_r0 rfl (q_load_ra rfl rfl rfl rfl rfl (by (simp; done)) rfl ?_)))))))))))))))
 refine q_fld_r rfl (q_load_r rfl rfl rfl rfl rfl rfl rfl ?_)
 refine q_callp (show PCon prog 86 [ptP t, i64 t.r] (fun p => p = ints (ordT t)) from c_spec_walk t hs (hgtT t) t.r hvf.wk (by have := hvf.n16; omega)) rfl trivial ?_
 refine q_mv rfl (rg_nil (VS_seq (VS_seq (VS_r0 rfl (q_mv rfl (rg_nil (VS_block ?_)))))))
 refine VS_bd (Bd.pad ?_)
 refine VS_bd (Bd.keepL [(1, .ptr 0 0 0), (2, .ptr 1 0 0), (3, .ptr 2 0 0), (4, .pv (ints (ordT t))), (5, .pv (i64 0))] ⟨rfl, rfl, rfl, rfl, rfl, trivial⟩ ?_)
 refine VS_loop (fun mz E S => ∃ i : Nat, ∃ ps : List Pg, mz = (ordT t).length - i ∧ (i ≤ (ordT t).length) ∧ (ps = ((ordT t).take i).map fun x => rnG (ordT t) (pg t x)) ∧ (ps.length = i) ∧ E = env [(1, .ptr 0 0 0), (2, .ptr 1 0 0), (3, .ptr 2 0 0), (4, .pv (ints (ordT t))), (5, .pv (i64 i))] ∧ S = [some ⟨39, 2, [.pv (ptP t)]⟩, some ⟨39, 2, [.agg [.pv (i64 0), .nils]]⟩, some ⟨39, 2, [.agg [.pv (i64 0), ownD 3 (dG ps)]]⟩, obD 25 3 (dG ps)]) ⟨_, 0, [], rfl, (by omega), rfl, rfl, rfl, rfl⟩ ?_
 rintro mz _ _ ⟨i, ps, hmeas, g0, g1, g2, rfl, rfl⟩
 refine VS_seq (VS_seq (VS_r0 rfl (q_mv rfl (q_mv rfl (q_len_m rfl (q_lss rfl rfl (rg_nil ?_)))))))
 refine VS_cond rfl (fun c0 => ?_) (fun c0 => ?_)
 ·try simp at c0
  have hr := hf.rg _ (nth_mem (xs := ordT t) (i := i) (by omega))
  have hx : (nth (ordT t) i).toNat < t.ps.length := by omega
  have hsz : (nth t.ps (nth (ordT t) i).toNat).ks.length ≤ 1000000 ∧ (nth t.ps (nth (ordT t) i).toNat).cs.length ≤ 1000000 ∧ (nth t.ps (nth (ordT t) i).toNat).vs.length ≤ 1000000 := hs.2 (nth (ordT t) i) hr.1 hr.2
  have hcz := hsz.2.1
  refine VS_skip (VS_seq (VS_block ?_))
  refine VS_join (fun E S => E = env [(1, .ptr 0 0 0), (2, .ptr 1 0 0), (3, .ptr 2 0 0), (4, .pv (ints (ordT t))), (5, .pv (i64 i)), (6, .ptr 5 0 0)] ∧ S = [some ⟨39, 2, [.pv (ptP t)]⟩, some ⟨39, 2, [.agg [.pv (i64 0), .nils]]⟩, some ⟨39, 2, [.agg [.pv (i64 0), ownD 3 (dG ps)]]⟩, obD 25 3 (dG ps), obD 3 1 (dI (nth t.ps (nth (ordT t) i).toNat).cs), some ⟨25, 3, [pgQ 4 (nth t.ps (nth (ordT t) i).toNat)]⟩]) ?_ ?_
  ·skip
   refine VS_r2 [some ⟨39, 2, [.pv (ptP t)]⟩] hmix (SubL.sub (by repeat constructor)) (q_fld_r rfl (q_load_r rfl rfl rfl rfl rfl rfl rfl (q_mv rfl (q_mv rfl (q_idx_at (f := fun k => i64 k) (xs := ordT t) (m := i) rfl rfl (by omega) (fun _ => rfl) (q_load_c rfl rfl rfl (q_idx_m (f := pgP) (xs := t.ps) (n := (nth (ordT t) i)) rfl rfl (by omega) (by omega) (fun _ => rfl) (q_load_c rfl rfl rfl ?_))))))))
   refine q_or ?_ ?_
   ·skip
    refine q_newX (mk := fun o => pgQ o (nth t.ps (nth (ordT t) i).toNat)) rfl (show NewX prog 89 3 [pgP (nth t.ps (nth (ordT t) i).toNat)] (fun o => pgQ o (nth t.ps (nth (ordT t) i).toNat)) (nth t.ps (nth (ordT t) i).toNat).cs from c_spec_copyPage_c (nth t.ps (nth (ordT t) i).toNat) hsz) (pgQ_mp rfl) pgQ_fw (by repeat (first | exact trivial | refine ⟨.inl rfl, ?_⟩ | refine ⟨.inr ⟨_, rfl, rfl⟩, ?_⟩)) (Sub.app _ _) ?_
    refine q_alloc (Sub.app _ _) (q_last (q_store rfl rfl rfl rfl rfl rfl ⟨rfl, rfl, by simp, by simp [setAt, isCell_own, isCell_sl, isCell_int, isCell_nils], by simp [isOne]⟩ rfl trivial (rg_nil ?_)))
    exact Bd.keepL [(1, .ptr 0 0 0), (2, .ptr 1 0 0), (3, .ptr 2 0 0), (4, .pv (ints (ordT t))), (5, .pv (i64 i)), (6, .ptr 5 0 0)] ⟨rfl, rfl, rfl, rfl, rfl, rfl, trivial⟩ ⟨rfl, rfl⟩
   ·skip
    refine q_alloc (Sub.app _ _) ?_
    refine q_newX (mk := fun o => pgQ o (nth t.ps (nth (ordT t) i).toNat)) rfl (show NewX prog 89 3 [pgP (nth t.ps (nth (ordT t) i).toNat)] (fun o => pgQ o (nth t.ps (nth (ordT t) i).toNat)) (nth t.ps (nth (ordT t) i).toNat).cs from c_spec_copyPage_c (nth t.ps (nth (ordT t) i).toNat) hsz) (pgQ_mp rfl) pgQ_fw (by repeat (first | exact trivial | refine ⟨.inl rfl, ?_⟩ | refine ⟨.inr ⟨_, rfl, rfl⟩, ?_⟩)) (Sub.app _ _) ?_
    refine q_last (q_store rfl rfl rfl rfl rfl rfl ⟨rfl, rfl, by simp, by simp [setAt, isCell_own, isCell_sl, isCell_int, isCell_nils], by simp [isOne]⟩ rfl trivial (rg_nil ?_))
    exact Bd.renL (S' := [some ⟨39, 2, [.pv (ptP t)]⟩, some ⟨39, 2, [.agg [.pv (i64 0), .nils]]⟩, some ⟨39, 2, [.agg [.pv (i64 0), ownD 3 (dG ps)]]⟩, obD 25 3 (dG ps), obD 3 1 (dI (nth t.ps (nth (ordT t) i).toNat).cs), some ⟨25, 3, [pgQ 4 (nth t.ps (nth (ordT t) i).toNat)]⟩]) [0, 1, 2, 3, 5, 4] (zcw _) (by simp) [(1, .ptr 0 0 0), (2, .ptr 1 0 0), (3, .ptr 2 0 0), (4, .pv (ints (ordT t))), (5, .pv (i64 i)), (6, .ptr 5 0 0)] ⟨rfl, rfl, rfl, rfl, rfl, rfl, trivial⟩ (l6 rfl rfl (congrArg (fun z => some (⟨39, 2, [.agg [.pv (i64 0), z]]⟩ : Ob)) (mp1_own rfl)) (obD_mG _) (obD_mI _) (congrArg (fun z => some (⟨25, 3, [z]⟩ : Ob)) (pgQ_mp rfl))) ⟨rfl, rfl⟩
  ·rintro _ _ ⟨rfl, rfl⟩
   refine VS_seq (VS_seq (VS_r0 rfl (q_mv rfl (rg_nil (VS_block ?_)))))
   refine VS_bd (Bd.keepL [(1, .ptr 0 0 0), (2, .ptr 1 0 0), (3, .ptr 2 0 0), (4, .pv (ints (ordT t))), (5, .pv (i64 i)), (6, .ptr 5 0 0), (7, .pv (i64 0))] ⟨rfl, rfl, rfl, rfl, rfl, rfl, rfl, trivial⟩ ?_)
   refine VS_loop (fun mz E S => ∃ k : Nat, mz = (nth t.ps (nth (ordT t) i).toNat).cs.length - k ∧ (k ≤ (nth t.ps (nth (ordT t) i).toNat).cs.length) ∧ E = env [(1, .ptr 0 0 0), (2, .ptr 1 0 0), (3, .ptr 2 0 0), (4, .pv (ints (ordT t))), (5, .pv (i64 i)), (6, .ptr 5 0 0), (7, .pv (i64 k))] ∧ S = [some ⟨39, 2, [.pv (ptP t)]⟩, some ⟨39, 2, [.agg [.pv (i64 0), .nils]]⟩, some ⟨39, 2, [.agg [.pv (i64 0), ownD 3 (dG ps)]]⟩, obD 25 3 (dG ps), obD 3 1 (dI (halfC t (nth (ordT t) i).toNat k)), some ⟨25, 3, [pgQ 4 (nth t.ps (nth (ordT t) i).toNat)]⟩]) ⟨_, 0, rfl, (by omega), rfl, (by rw [half_zero])⟩ ?_
   rintro mz _ _ ⟨k, hmeas, h0, rfl, rfl⟩
   refine VS_seq (VS_seq (VS_r0 rfl (q_mv rfl (q_fld_r rfl (q_load_o rfl rfl rfl rfl rfl (q_len_dm rfl (q_lss rfl rfl (rg_nil ?_))))))))
   refine VS_cond rfl (fun c1 => ?_) (fun c1 => ?_)
   ·try simp at c1
    have hkm := hf.kid ((nth (ordT t) i).toNat : Int) (inT_iff.2 (by omega)) (nth (nth t.ps (nth (ordT t) i).toNat).cs k) (nth_mem (xs := (nth t.ps (nth (ordT t) i).toNat).cs) (by omega))
    refine VS_skip (VS_seq (VS_block (VS_r2 [none, none, none, none, obD 3 1 (dI (halfC t (nth (ordT t) i).toNat k)), some ⟨25, 3, [pgQ 4 (nth t.ps (nth (ordT t) i).toNat)]⟩] hmix (SubL.sub (by repeat constructor)) (q_fld_r rfl (q_load_o rfl rfl rfl rfl rfl (q_mv rfl (q_mv rfl (q_fld_r rfl (q_load_o rfl rfl rfl rfl rfl (q_mv rfl ?_))))))))))
    refine q_idx_d (ty := 3) (xs := dI (halfC t (nth (ordT t) i).toNat k)) (ownD_len (by simp [half_len (show k ≤ (nth t.ps (nth (ordT t) i).toNat).cs.length by omega)]) : ownD 4 (dI (nth t.ps (nth (ordT t) i).toNat).cs) = ownD 4 (dI (halfC t (nth (ordT t) i).toNat k))) rfl (by omega) (by rw [List.length_map, half_len (by omega)]; omega) rfl ?_
    rw [Int.toNat_natCast]
    refine q_load_d (ty := 3) (xs := (halfC t (nth (ordT t) i).toNat k)) (f := fun k => .pv (i64 k)) rfl rfl (by rw [half_len (by omega)]; omega) rfl rfl rfl ?_
    rw [half_at (show k < (nth t.ps (nth (ordT t) i).toNat).cs.length by omega)]
    refine q_callp ((c_spec_placeOf (ordT t) (nth (nth t.ps (nth (ordT t) i).toNat).cs k) (by omega)).to (y := i64 (rnC (ordT t) (nth (nth t.ps (nth (ordT t) i).toNat).cs k))) (by rw [if_pos (List.contains_iff_mem.2 (hf.all _ hkm))]; rfl)) rfl (SubL.sub (by repeat constructor)) ?_
    refine q_idx_d (ty := 3) (xs := dI (halfC t (nth (ordT t) i).toNat k)) (ownD_len (by simp [half_len (show k ≤ (nth t.ps (nth (ordT t) i).toNat).cs.length by omega)]) : ownD 4 (dI (nth t.ps (nth (ordT t) i).toNat).cs) = ownD 4 (dI (halfC t (nth (ordT t) i).toNat k))) rfl (by omega) (by rw [List.length_map, half_len (by omega)]; omega) rfl ?_
    rw [Int.toNat_natCast]
    refine q_last (q_store_d (ty := 3) (xs := (halfC t (nth (ordT t) i).toNat k)) (v := rnC (ordT t) (nth (nth t.ps (nth (ordT t) i).toNat).cs k)) rfl rfl rfl (by rw [half_len (by omega)]; omega) trivial (rg_nil (VS_r0 rfl (q_mv rfl (q_add rfl rfl (inR64 (by omega)) (q_mv rfl (rg_nil ?_)))))))
    refine Bd.keepL [(1, .ptr 0 0 0), (2, .ptr 1 0 0), (3, .ptr 2 0 0), (4, .pv (ints (ordT t))), (5, .pv (i64 i)), (6, .ptr 5 0 0), (7, .pv (i64 (k + 1)))] ⟨rfl, rfl, rfl, rfl, rfl, rfl, rfl, trivial⟩ ⟨_, ?_, k + 1, rfl, ?_, rfl, (by rw [← half_set (show k < (nth t.ps (nth (ordT t) i).toNat).cs.length by omega)]; rfl)⟩
    ·omega
    ·omega
   ·try simp at c1
    refine VS_exit ?_
    have ek : k = (nth t.ps (nth (ordT t) i).toNat).cs.length := by omega
    rw [ek, half_all]
    refine VS_bd (Bd.frzF 4 5 0 1 3 1 (xs := dI ((nth t.ps (nth (ordT t) i).toNat).cs.map (rnC (ordT t)))) (by decide) rfl (toPVs_dI _) rfl rfl (by exact congrArg some (ownD_len (by simp))) ?_)
    refine VS_r0 rfl (q_fld_r rfl (q_load_o rfl rfl rfl rfl rfl (q_load_ra rfl rfl rfl rfl rfl (by (simp; done)) rfl (q_lit (xs := [pgP (rnG (ordT t) (nth t.ps (nth (ordT t) i).toNat))]) rfl rfl rfl rfl (q_app_dm (xs := ps) (ys := [(rnG (ordT t) (nth t.ps (nth (ordT t) i).toNat))]) (f := fun p => .pv (pgP p)) rfl rfl rfl rfl ⟨by simp; omega, by simp; omega⟩ trivial (q_fld_r rfl (q_storeF rfl rfl rfl rfl rfl (by (simp; done)) trivial (rg_nil (VS_r0 rfl (q_mv rfl (q_add rfl rfl (inR64 (by omega)) (q_mv rfl (rg_nil ?_)))))))))))))
    refine Bd.renL [0, 1, 2, 6] (zcw _) (by simp) [(1, .ptr 0 0 0), (2, .ptr 1 0 0), (3, .ptr 2 0 0), (4, .pv (ints (ordT t))), (5, .pv (i64 (i + 1)))] ⟨rfl, rfl, rfl, rfl, rfl, trivial⟩ (l4 rfl rfl (congrArg (fun z => some (⟨39, 2, [.agg [.pv (i64 0), z]]⟩ : Ob)) (mp1_own rfl)) (obD_mG _)) ⟨_, ?_, i + 1, ps ++ [(rnG (ordT t) (nth t.ps (nth (ordT t) i).toNat))], rfl, ?_, ?_, ?_, rfl, rfl⟩
    ·omega
    ·omega
    ·rw [take_succ_nth (by omega), List.map_append, ← g1]; rfl
    ·simp; omega
 ·try simp at c0
  refine VS_exit (VS_seq (VS_r0 rfl (q_load_ra rfl rfl rfl rfl rfl (by (simp; done)) rfl (q_store rfl rfl rfl rfl rfl rfl ⟨rfl, rfl, by simp, by simp [setAt, isCell_own, isCell_sl, isCell_int, isCell_nils], by simp [isOne]⟩ rfl trivial (rg_nil (VS_ret ?_))))))
  have e : ps = (rnT t).ps := by rw [g1, List.take_of_length_le (by omega)]; rfl
  refine Bd.renL (S' := [obD 25 3 (dG ps), some ⟨39, 2, [.agg [.pv (i64 0), ownD 0 (dG ps)]]⟩]) [3, 1] (zcw _) (by simp) [(2, .ptr 1 0 0)] ⟨rfl, trivial⟩ (l2 (obD_mG _) (congrArg (fun z => some (⟨39, 2, [.agg [.pv (i64 0), z]]⟩ : Ob)) (mp1_own rfl))) ?_
  exact ⟨_, rfl, _, by rw [e]; rfl, by rw [e]⟩
end Go.V
