/- A part of the proofs about laws of the page tree (see the text that bears the law): a small language of steps, its rules, and what the functions of the program return. -/
import Derived.Test.YtgblkaealpggdaaWKcr
set_option linter.all false
set_option linter.unusedVariables false
set_option linter.unusedSimpArgs false
set_option maxHeartbeats 4000000
namespace Go.V
open Go.Proofs.Try (prog)
theorem zcs (os : List Nat) : ∀ i, i < 0 → os[i]? = some i := fun i hi => absurd hi (Nat.not_lt_zero i)
set_option maxRecDepth 100000
theorem sl_laws_FnPackPageTorn : slimF prog 4 = some (45, (.seq (.reg 0 (.o 2 (.mv (.c (.pv (.bool false)))) .nil)) (.seq (.seq (.reg 0 (.o 9 (.mv (.t 0)) (.o 10 (.len (.t 9)) (.o 11 (.bin .gtr (.t 10) (.c (.pv (.int .i64 1048576)))) .nil)))) (.cond (.t 11) (.seq (.reg 0 (.o 2 (.mv (.c (.pv (.bool true)))) .nil)) .ret) .skip)) (.seq (.reg 0 (.o 12 (.mv (.t 0)) (.o 13 (.call 11 [.t 12]) (.o 3 (.alloc 25 3 (.agg [.nils, .nils, .nils])) (.op ⟨none, none, .store 3 (.t 3) (.t 13)⟩ .nil))))) (.seq (.reg 0 (.o 14 (.load 3 true (.t 3)) (.o 15 (.call 12 [.t 14]) (.o 4 (.mv (.t 15)) .nil)))) (.seq (.seq (.reg 0 (.o 16 (.mv (.t 4)) (.o 17 (.load 3 true (.t 3)) (.o 18 (.call 14 [.t 17]) (.o 19 (.call 13 [.t 16, .t 18]) (.o 20 (.not (.t 19)) (.o 21 (.mv (.t 20)) (.g 22 21 false (.mv (.t 4)) (.g 23 21 false (.len (.t 22)) (.g 24 21 false (.bin .eql (.t 23) (.c (.pv (.int .i64 0)))) (.o 25 (.pick (.t 21) (.c (.pv (.bool true))) (.t 24)) .nil))))))))))) (.cond (.t 25) (.seq (.reg 0 (.o 26 (.mv (.t 4)) (.o 27 (.load 3 true (.t 3)) (.o 28 (.call 14 [.t 27]) (.o 29 (.call 13 [.t 26, .t 28]) (.o 2 (.mv (.t 29)) .nil)))))) .ret) .skip)) (.seq (.seq (.reg 0 (.o 5 (.mv (.c (.pv (.int .i64 0)))) .nil)) (.block 0 (.loop (.seq (.seq (.reg 0 (.o 30 (.mv (.t 5)) (.o 31 (.mv (.t 4)) (.o 32 (.len (.t 31)) (.o 33 (.bin .lss (.t 30) (.t 32)) .nil))))) (.cond (.t 33) .skip (.exit 0))) (.seq (.block 1 (.seq (.reg 0 (.o 37 (.mv (.t 4)) (.o 38 (.mv (.t 5)) (.o 39 (.slc 1 (.t 37) none (some (.t 38))) (.o 40 (.call 15 [.t 39]) (.o 36 (.mv (.t 40)) (.o 41 (.ext (.t 36) 0) (.o 42 (.ext (.t 36) 1) (.o 43 (.ext (.t 36) 2) (.o 6 (.alloc 25 3 (.agg [.nils, .nils, .nils])) (.op ⟨none, none, .store 3 (.t 6) (.t 41)⟩ (.o 7 (.mv (.t 42)) (.o 8 (.mv (.t 43)) .nil))))))))))))) (.seq (.reg 0 (.o 44 (.mv (.t 8)) .nil)) (.cond (.t 44) (.seq (.reg 0 (.o 2 (.mv (.c (.pv (.bool false)))) .nil)) .ret) .skip)))) (.reg 0 (.o 34 (.mv (.t 5)) (.o 35 (.bin .add (.t 34) (.c (.pv (.int .i64 1)))) (.o 5 (.mv (.t 35)) .nil))))))))) (.seq (.reg 0 (.o 2 (.mv (.c (.pv (.bool true)))) .nil)) .ret)))))), [.t 2])) := by kernel_rfl
theorem c_laws_FnPackPageTorn (bs : List Int) (hb : isU8 bs) : PCon prog 4 [u8s bs] (fun p => p = .bool true) := by
 refine con_of_VS sl_laws_FnPackPageTorn (by simp) (VS_seq (VS_r0 rfl (q_mv rfl (rg_nil (VS_seq (VS_seq (VS_r0 rfl (q_mv rfl (q_len_m rfl (q_gtr rfl rfl (rg_nil ?_)))))))))))
 refine VS_cond rfl (fun c0 => ?_) (fun c0 => ?_)
 ·try simp at c0
  refine VS_seq (VS_r0 rfl (q_mv rfl (rg_nil (VS_ret ?_))))
  exact Bd.now ⟨_, rfl, rfl⟩
 ·try simp at c0
  refine VS_skip (VS_seq (VS_r0 rfl (q_mv rfl (q_calle rfl (c_spec_DrawPackPage bs hb (by omega)) rfl trivial ?_))))
  rintro _ ⟨g, rfl, hg⟩
  refine q_alloc trivial (q_store rfl rfl rfl rfl rfl rfl ⟨rfl, rfl, by simp, rfl, by simp [isOne]⟩ rfl trivial (rg_nil (VS_seq ?_)))
  cases hf : fitsG g
  ·skip
   have hpl : (pkV g).length = 0 := by rw [pkV, hf]; rfl
   refine VS_r0 rfl (q_load_ra rfl rfl rfl rfl rfl (by (simp [setAt]; done)) rfl (q_callp (c_impl_PackPage g hg) rfl trivial (q_mv rfl (rg_nil (VS_seq (VS_seq (VS_r0 rfl (q_mv rfl (q_load_ra rfl rfl rfl rfl rfl (by (simp [setAt]; done)) rfl (q_callp (c_spec_PackPage g hg) rfl trivial (q_callp (x := .bool true) ((c_laws_equalInts _ _ (by omega) (by omega)).eqT (by rfl)) rfl trivial (q_not rfl (q_mv rfl (q_t rfl (q_mv rfl ?_)))))))))))))))
   refine q_t rfl (q_len_m rfl (q_t rfl (q_eql_v true rfl rfl (decide_eq_true (by omega)) (q_pick_f rfl rfl (rg_nil ?_)))))
   refine VS_cond rfl (fun _ => ?_) (fun e => by cases e)
   refine VS_seq (VS_r0 rfl (q_mv rfl (q_load_ra rfl rfl rfl rfl rfl (by (simp [setAt]; done)) rfl (q_callp (c_spec_PackPage g hg) rfl trivial (q_callp (x := .bool true) ((c_laws_equalInts _ _ (by omega) (by omega)).eqT (by rfl)) rfl trivial (q_mv rfl (rg_nil (VS_ret ?_))))))))
   exact Bd.now ⟨_, rfl, rfl⟩
  ·skip
   have hp : pkV g = pkL g := by rw [pkV, if_pos hf]
   have hpl := pk_len hf
   rw [← hp] at hpl
   have hla := pk_last g
   rw [← hp] at hla
   have hck := ckL_rg (pkM g)
   have h4 := fits_four hf
   have hbig : (pkV g).length ≤ 100 ∧ 2 ≤ (pkV g).length := by split at hpl <;> omega
   refine VS_r0 rfl (q_load_ra rfl rfl rfl rfl rfl (by (simp [setAt]; done)) rfl (q_callp (c_impl_PackPage g hg) rfl trivial (q_mv rfl (rg_nil (VS_seq (VS_seq (VS_r0 rfl (q_mv rfl (q_load_ra rfl rfl rfl rfl rfl (by (simp [setAt]; done)) rfl (q_callp (c_spec_PackPage g hg) rfl trivial (q_callp (x := .bool true) ((c_laws_equalInts _ _ (by omega) (by omega)).eqT (by rfl)) rfl trivial (q_not rfl (q_mv rfl (q_t rfl (q_mv rfl ?_)))))))))))))))
   refine q_t rfl (q_len_m rfl (q_t rfl (q_eql_v false rfl rfl (decide_eq_false (by omega)) (q_pick_f rfl rfl (rg_nil ?_)))))
   refine VS_cond rfl (fun e => by cases e) (fun _ => ?_)
   refine VS_skip (VS_seq (VS_seq (VS_r0 rfl (q_mv rfl (rg_nil (VS_block ?_))))))
   refine VS_bd (Bd.keepL [(4, .pv (ints (pkV g))), (5, .pv (i64 0))] ⟨rfl, rfl, trivial⟩ ?_)
   refine VS_loop (fun mz E S => ∃ i : Nat, mz = (pkV g).length - i ∧ (i ≤ (pkV g).length) ∧ E = env [(4, .pv (ints (pkV g))), (5, .pv (i64 i))] ∧ S = [some ⟨25, 3, [.agg [.pv (ints g.ks), .pv (ints g.cs), .pv (ints g.vs)]]⟩]) ⟨_, 0, rfl, (by omega), rfl, rfl⟩ ?_
   rintro mz _ _ ⟨i, hmeas, g0, rfl, rfl⟩
   refine VS_seq (VS_seq (VS_r0 rfl (q_mv rfl (q_mv rfl (q_len_m rfl (q_lss rfl rfl (rg_nil ?_)))))))
   refine VS_cond rfl (fun c2 => ?_) (fun c2 => ?_)
   ·try simp at c2
    have ht : (((pkV g).take i).drop 0).length = i ∧ (0 < (((pkV g).take i).drop 0).length → 0 ≤ nth (((pkV g).take i).drop 0) 0 ∧ nth (((pkV g).take i).drop 0) 0 ≤ 9 ∧ ((((pkV g).take i).drop 0).length : Int) < 2 * (nth (((pkV g).take i).drop 0) 0 / 2) + 2 + nth (((pkV g).take i).drop 0) 0 % 2) := by rw [hp]; exact un_torn hf (by rw [← hp]; omega)
    have htl := ht.1
    refine VS_skip (VS_seq (VS_block (VS_seq (VS_r0 rfl (q_mv rfl (q_mv rfl (q_slc_m (xs := pkV g) (f := fun k => i64 k) 0 i rfl rfl rfl ⟨rfl, rfl, by omega, by omega⟩ (fun _ => rfl) (q_callp (c_impl_UnpackPage_torn (((pkV g).take i).drop 0) (by omega) ht.2) rfl trivial (q_mv rfl (q_ext rfl rfl (q_ext rfl rfl (q_ext rfl rfl (q_alloc trivial (q_store rfl rfl rfl rfl rfl rfl ⟨rfl, rfl, by simp, rfl, by simp [isOne]⟩ rfl trivial (q_mv rfl ?_)))))))))))))))
    refine q_mv rfl (rg_nil (VS_seq (VS_r0 rfl (q_mv rfl (rg_nil ?_)))))
    refine VS_cond rfl (fun c3 => ?_) (fun c3 => ?_)
    ·exfalso; simp at c3
    ·try simp at c3
     refine VS_skip (VS_r0 rfl (q_mv rfl (q_add rfl rfl (inR64 (by omega)) (q_mv rfl (rg_nil ?_)))))
     refine Bd.renL [0] (zcs _) (by simp) [(4, .pv (ints (pkV g))), (5, .pv (i64 (i + 1)))] ⟨rfl, rfl, trivial⟩ (l1 rfl) ⟨_, ?_, i + 1, rfl, ?_, rfl, rfl⟩
     ·omega
     ·omega
   ·try simp at c2
    refine VS_exit (VS_seq (VS_r0 rfl (q_mv rfl (rg_nil (VS_ret ?_)))))
    exact Bd.now ⟨_, rfl, rfl⟩
theorem sl_laws_FnUnpackPageChanged : slimF prog 3 = some (57, (.seq (.reg 0 (.o 2 (.mv (.c (.pv (.bool false)))) .nil)) (.seq (.seq (.reg 0 (.o 10 (.mv (.t 0)) (.o 11 (.len (.t 10)) (.o 12 (.bin .gtr (.t 11) (.c (.pv (.int .i64 1048576)))) .nil)))) (.cond (.t 12) (.seq (.reg 0 (.o 2 (.mv (.c (.pv (.bool true)))) .nil)) .ret) .skip)) (.seq (.reg 0 (.o 13 (.mv (.t 0)) (.o 14 (.call 11 [.t 13]) (.o 3 (.alloc 25 3 (.agg [.nils, .nils, .nils])) (.op ⟨none, none, .store 3 (.t 3) (.t 14)⟩ .nil))))) (.seq (.reg 0 (.o 15 (.load 3 true (.t 3)) (.o 16 (.call 12 [.t 15]) (.o 4 (.mv (.t 16)) .nil)))) (.seq (.seq (.reg 0 (.o 17 (.mv (.t 4)) (.o 18 (.load 3 true (.t 3)) (.o 19 (.call 14 [.t 18]) (.o 20 (.call 13 [.t 17, .t 19]) (.o 21 (.not (.t 20)) (.o 22 (.mv (.t 21)) (.g 23 22 false (.mv (.t 4)) (.g 24 22 false (.len (.t 23)) (.g 25 22 false (.bin .eql (.t 24) (.c (.pv (.int .i64 0)))) (.o 26 (.pick (.t 22) (.c (.pv (.bool true))) (.t 25)) .nil))))))))))) (.cond (.t 26) (.seq (.reg 0 (.o 27 (.mv (.t 4)) (.o 28 (.load 3 true (.t 3)) (.o 29 (.call 14 [.t 28]) (.o 30 (.call 13 [.t 27, .t 29]) (.o 2 (.mv (.t 30)) .nil)))))) .ret) .skip)) (.seq (.reg 0 (.o 31 (.mv (.t 4)) (.o 32 (.len (.t 31)) (.o 33 (.bin .sub (.t 32) (.c (.pv (.int .i64 1)))) (.o 5 (.mv (.t 33)) .nil))))) (.seq (.reg 0 (.o 34 (.lit 3 1 0 [.pv (.int .i64 0)] []) (.o 35 (.mv (.t 4)) (.o 36 (.app 3 1 8 (.t 34) (.t 35)) (.o 6 (.mv (.t 36)) .nil))))) (.seq (.reg 0 (.o 37 (.mv (.t 6)) (.o 38 (.mv (.t 5)) (.o 39 (.mv (.t 6)) (.o 40 (.mv (.t 5)) (.o 41 (.idx 1 (.t 39) (.t 40)) (.o 42 (.load 1 false (.t 41)) (.o 43 (.bin .add (.t 42) (.c (.pv (.int .i64 1)))) (.o 44 (.mv (.t 0)) (.o 45 (.len (.t 44)) (.o 46 (.bin .rem (.t 45) (.c (.pv (.int .i64 7)))) (.o 47 (.bin .add (.t 43) (.t 46)) (.o 48 (.idx 1 (.t 37) (.t 38)) (.op ⟨none, none, .store 1 (.t 48) (.t 47)⟩ .nil)))))))))))))) (.seq (.reg 0 (.o 50 (.mv (.t 6)) (.o 51 (.call 15 [.t 50]) (.o 49 (.mv (.t 51)) (.o 52 (.ext (.t 49) 0) (.o 53 (.ext (.t 49) 1) (.o 54 (.ext (.t 49) 2) (.o 7 (.alloc 25 3 (.agg [.nils, .nils, .nils])) (.op ⟨none, none, .store 3 (.t 7) (.t 52)⟩ (.o 8 (.mv (.t 53)) (.o 9 (.mv (.t 54)) .nil))))))))))) (.seq (.reg 0 (.o 55 (.mv (.t 9)) (.o 56 (.not (.t 55)) (.o 2 (.mv (.t 56)) .nil)))) .ret))))))))), [.t 2])) := by kernel_rfl
theorem c_laws_FnUnpackPageChanged (bs : List Int) (hb : isU8 bs) : PCon prog 3 [u8s bs] (fun p => p = .bool true) := by
 refine con_of_VS sl_laws_FnUnpackPageChanged (by simp) (VS_seq (VS_r0 rfl (q_mv rfl (rg_nil (VS_seq (VS_seq (VS_r0 rfl (q_mv rfl (q_len_m rfl (q_gtr rfl rfl (rg_nil ?_)))))))))))
 refine VS_cond rfl (fun c0 => ?_) (fun c0 => ?_)
 ·try simp at c0
  refine VS_seq (VS_r0 rfl (q_mv rfl (rg_nil (VS_ret ?_))))
  exact Bd.now ⟨_, rfl, rfl⟩
 ·try simp at c0
  refine VS_skip (VS_seq (VS_r0 rfl (q_mv rfl (q_calle rfl (c_spec_DrawPackPage bs hb (by omega)) rfl trivial ?_))))
  rintro _ ⟨g, rfl, hg⟩
  refine q_alloc trivial (q_store rfl rfl rfl rfl rfl rfl ⟨rfl, rfl, by simp, rfl, by simp [isOne]⟩ rfl trivial (rg_nil (VS_seq ?_)))
  cases hf : fitsG g
  ·skip
   have hpl : (pkV g).length = 0 := by rw [pkV, hf]; rfl
   refine VS_r0 rfl (q_load_ra rfl rfl rfl rfl rfl (by (simp [setAt]; done)) rfl (q_callp (c_impl_PackPage g hg) rfl trivial (q_mv rfl (rg_nil (VS_seq (VS_seq (VS_r0 rfl (q_mv rfl (q_load_ra rfl rfl rfl rfl rfl (by (simp [setAt]; done)) rfl (q_callp (c_spec_PackPage g hg) rfl trivial (q_callp (x := .bool true) ((c_laws_equalInts _ _ (by omega) (by omega)).eqT (by rfl)) rfl trivial (q_not rfl (q_mv rfl (q_t rfl (q_mv rfl ?_)))))))))))))))
   refine q_t rfl (q_len_m rfl (q_t rfl (q_eql_v true rfl rfl (decide_eq_true (by omega)) (q_pick_f rfl rfl (rg_nil ?_)))))
   refine VS_cond rfl (fun _ => ?_) (fun e => by cases e)
   refine VS_seq (VS_r0 rfl (q_mv rfl (q_load_ra rfl rfl rfl rfl rfl (by (simp [setAt]; done)) rfl (q_callp (c_spec_PackPage g hg) rfl trivial (q_callp (x := .bool true) ((c_laws_equalInts _ _ (by omega) (by omega)).eqT (by rfl)) rfl trivial (q_mv rfl (rg_nil (VS_ret ?_))))))))
   exact Bd.now ⟨_, rfl, rfl⟩
  ·skip
   have hp : pkV g = pkL g := by rw [pkV, if_pos hf]
   have hpl := pk_len hf
   rw [← hp] at hpl
   have hla := pk_last g
   rw [← hp] at hla
   have hck := ckL_rg (pkM g)
   have h4 := fits_four hf
   have hbig : (pkV g).length ≤ 100 ∧ 2 ≤ (pkV g).length := by split at hpl <;> omega
   have hset : (pkV g).set ((pkV g).length - 1) (nth (pkV g) ((pkV g).length - 1) + 1 + ((bs.length % 7 : Nat) : Int)) = pkM g ++ [(nth (pkV g) ((pkV g).length - 1) + 1 + ((bs.length % 7 : Nat) : Int))] := by rw [hp]; exact set_last
   have hU : UnF ((pkV g).set ((pkV g).length - 1) (nth (pkV g) ((pkV g).length - 1) + 1 + ((bs.length % 7 : Nat) : Int))) g := by rw [hset]; exact un_facts hf (by rw [hla]; omega)
   refine VS_r0 rfl (q_load_ra rfl rfl rfl rfl rfl (by (simp [setAt]; done)) rfl (q_callp (c_impl_PackPage g hg) rfl trivial (q_mv rfl (rg_nil (VS_seq (VS_seq (VS_r0 rfl (q_mv rfl (q_load_ra rfl rfl rfl rfl rfl (by (simp [setAt]; done)) rfl (q_callp (c_spec_PackPage g hg) rfl trivial (q_callp (x := .bool true) ((c_laws_equalInts _ _ (by omega) (by omega)).eqT (by rfl)) rfl trivial (q_not rfl (q_mv rfl (q_t rfl (q_mv rfl ?_)))))))))))))))
   refine q_t rfl (q_len_m rfl (q_t rfl (q_eql_v false rfl rfl (decide_eq_false (by omega)) (q_pick_f rfl rfl (rg_nil ?_)))))
   refine VS_cond rfl (fun e => by cases e) (fun _ => ?_)
   refine VS_skip (VS_seq (VS_r0 rfl (q_mv rfl (q_len_m rfl (q_sub_to (((pkV g).length - 1 : Nat) : Int) rfl rfl (by omega) (inR64 (by omega)) (q_mv rfl (rg_nil (VS_seq (VS_r0 rfl (q_lit0 (q_mv rfl (q_app_zm (ys := pkV g) (f := fun k => .pv (i64 k)) rfl (elems_I _) (cell_I _) ⟨by omega, by omega⟩ trivial (q_mv rfl (rg_nil (VS_seq ?_)))))))))))))))
   refine VS_r0 rfl (q_mv rfl (q_mv rfl (q_mv rfl (q_mv rfl (q_idx_dm (f := fun k => .pv (i64 k)) (ty := 3) (xs := pkV g) rfl rfl (by omega) (by omega) rfl ?_)))))
   rw [Int.toNat_natCast]
   refine q_load_d (ty := 3) (xs := pkV g) rfl rfl (by omega) rfl rfl rfl (q_add_to (nth (pkV g) ((pkV g).length - 1) + 1) rfl rfl rfl (inR64 (by omega)) (q_mv rfl (q_len_m rfl (q_rem_to ((bs.length % 7 : Nat) : Int) rfl rfl ⟨by omega, by omega⟩ (by simp) (q_add_to (nth (pkV g) ((pkV g).length - 1) + 1 + ((bs.length % 7 : Nat) : Int)) rfl rfl rfl (inR64 (by omega)) (q_idx_dm (f := fun k => .pv (i64 k)) (ty := 3) (xs := pkV g) rfl rfl (by omega) (by omega) rfl ?_))))))
   rw [Int.toNat_natCast]
   refine q_store_d (ty := 3) (xs := pkV g) (v := (nth (pkV g) ((pkV g).length - 1) + 1 + ((bs.length % 7 : Nat) : Int))) rfl rfl rfl (by omega) trivial (rg_nil ?_)
   refine VS_bd (Bd.pureO 6 1 (ob := ⟨3, 1, dI ((pkV g).set ((pkV g).length - 1) (nth (pkV g) ((pkV g).length - 1) + 1 + ((bs.length % 7 : Nat) : Int)))⟩) (ps := ((pkV g).set ((pkV g).length - 1) (nth (pkV g) ((pkV g).length - 1) + 1 + ((bs.length % 7 : Nat) : Int))).map (.int .i64)) (ownD_ne (ne_map (by omega))) (congrArg some (obD_ne (ne_map (by rw [List.length_set]; omega)))) (by simp) (toPVs_dI _) ?_)
   refine VS_seq (VS_r0 rfl (q_mv rfl (q_callp (c_impl_UnpackPage_bad ((pkV g).set ((pkV g).length - 1) (nth (pkV g) ((pkV g).length - 1) + 1 + ((bs.length % 7 : Nat) : Int))) g hg hf hU) rfl trivial (q_mv rfl (q_ext rfl rfl (q_ext rfl rfl (q_ext rfl rfl (q_alloc trivial (q_store rfl rfl rfl rfl rfl rfl ⟨rfl, rfl, by simp, rfl, by simp [isOne]⟩ rfl trivial (q_mv rfl (q_mv rfl (rg_nil (VS_seq (VS_r0 rfl (q_mv rfl ?_)))))))))))))))
   refine q_not rfl (q_mv rfl (rg_nil (VS_ret ?_)))
   exact Bd.now ⟨_, rfl, rfl⟩
end Go.V
