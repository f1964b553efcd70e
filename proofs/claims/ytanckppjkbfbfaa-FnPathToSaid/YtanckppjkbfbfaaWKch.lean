/- A part of the proofs about laws of the page tree (see the text that bears the law): a small language of steps, its rules, and what the functions of the program return. -/
import Derived.Test.YtanckppjkbfbfaaWKcg
import Derived.Test.YtanckppjkbfbfaaWC
import Derived.Test.YtanckppjkbfbfaaWB
set_option linter.all false
set_option linter.unusedVariables false
set_option linter.unusedSimpArgs false
set_option maxHeartbeats 4000000
namespace Go.V
open Go.Proofs.Try (prog)
set_option maxRecDepth 100000
theorem sl_laws_FnPathTo : slimF prog 3 = some (98, (.seq (.reg 0 (.o 2 (.mv (.c (.pv (.bool false)))) .nil)) (.seq (.seq (.reg 0 (.o 7 (.mv (.t 0)) (.o 8 (.len (.t 7)) (.o 9 (.bin .gtr (.t 8) (.c (.pv (.int .i64 1048576)))) .nil)))) (.cond (.t 9) (.seq (.reg 0 (.o 2 (.mv (.c (.pv (.bool true)))) .nil)) .ret) .skip)) (.seq (.reg 0 (.o 11 (.mv (.t 0)) (.o 12 (.call 14 [.t 11]) (.o 10 (.mv (.t 12)) (.o 13 (.ext (.t 10) 0) (.o 14 (.ext (.t 10) 1) (.o 3 (.alloc 25 2 (.agg [.pv (.int .i64 0), .nils])) (.op ⟨none, none, .store 2 (.t 3) (.t 13)⟩ (.o 4 (.mv (.t 14)) .nil))))))))) (.seq (.reg 0 (.o 15 (.load 2 true (.t 3)) (.o 16 (.mv (.t 4)) (.o 17 (.call 15 [.t 15, .t 16]) (.o 5 (.mv (.t 17)) .nil))))) (.seq (.seq (.reg 0 (.o 18 (.mv (.t 5)) (.o 19 (.load 2 true (.t 3)) (.o 20 (.mv (.t 4)) (.o 21 (.call 17 [.t 19, .t 20]) (.o 22 (.call 16 [.t 18, .t 21]) (.o 23 (.not (.t 22)) (.o 24 (.mv (.t 23)) (.g 25 24 false (.mv (.t 5)) (.g 26 24 false (.len (.t 25)) (.g 27 24 false (.bin .eql (.t 26) (.c (.pv (.int .i64 0)))) (.o 28 (.pick (.t 24) (.c (.pv (.bool true))) (.t 27)) .nil)))))))))))) (.cond (.t 28) (.seq (.reg 0 (.o 29 (.mv (.t 5)) (.o 30 (.load 2 true (.t 3)) (.o 31 (.mv (.t 4)) (.o 32 (.call 17 [.t 30, .t 31]) (.o 33 (.call 16 [.t 29, .t 32]) (.o 2 (.mv (.t 33)) .nil))))))) .ret) .skip)) (.seq (.seq (.reg 0 (.o 6 (.mv (.c (.pv (.int .i64 0)))) .nil)) (.block 0 (.loop (.seq (.seq (.reg 0 (.o 34 (.mv (.t 6)) (.o 35 (.mv (.t 5)) (.o 36 (.len (.t 35)) (.o 37 (.bin .lss (.t 34) (.t 36)) .nil))))) (.cond (.t 37) .skip (.exit 0))) (.seq (.block 1 (.seq (.reg 2 (.o 40 (.mv (.t 5)) (.o 41 (.mv (.t 6)) (.o 42 (.idx 1 (.t 40) (.t 41)) (.o 43 (.load 1 false (.t 42)) (.o 44 (.bin .lss (.t 43) (.c (.pv (.int .i64 0)))) (.o 45 (.mv (.t 44)) (.g 46 45 false (.mv (.t 5)) (.g 47 45 false (.mv (.t 6)) (.g 48 45 false (.idx 1 (.t 46) (.t 47)) (.g 49 45 false (.load 1 false (.t 48)) (.g 50 45 false (.fld 1 1 false (.t 3)) (.g 51 45 false (.load 1 false (.t 50)) (.g 52 45 false (.len (.t 51)) (.g 53 45 false (.bin .geq (.t 49) (.t 52)) (.o 54 (.pick (.t 45) (.c (.pv (.bool true))) (.t 53)) (.o 55 (.mv (.t 54)) (.g 56 55 false (.mv (.t 6)) (.g 57 55 false (.bin .gtr (.t 56) (.c (.pv (.int .i64 0)))) (.g 58 55 false (.mv (.t 57)) (.g 59 58 true (.fld 1 1 false (.t 3)) (.g 60 58 true (.load 1 false (.t 59)) (.g 61 58 true (.mv (.t 5)) (.g 62 58 true (.mv (.t 6)) (.g 63 58 true (.bin .sub (.t 62) (.c (.pv (.int .i64 1)))) (.g 64 58 true (.idx 1 (.t 61) (.t 63)) (.g 65 58 true (.load 1 false (.t 64)) (.g 66 58 true (.idx 3 (.t 60) (.t 65)) (.g 67 58 true (.fld 1 1 false (.t 66)) (.g 68 58 true (.load 1 false (.t 67)) (.g 69 58 true (.mv (.t 5)) (.g 70 58 true (.mv (.t 6)) (.g 71 58 true (.idx 1 (.t 69) (.t 70)) (.g 72 58 true (.load 1 false (.t 71)) (.g 73 58 true (.call 18 [.t 68, .t 72]) (.g 74 58 true (.not (.t 73)) (.g 75 55 false (.pick (.t 58) (.t 74) (.c (.pv (.bool false)))) (.o 76 (.pick (.t 55) (.c (.pv (.bool true))) (.t 75)) .nil)))))))))))))))))))))))))))))))))))))) (.cond (.t 76) (.seq (.reg 0 (.o 2 (.mv (.c (.pv (.bool false)))) .nil)) .ret) .skip))) (.reg 0 (.o 38 (.mv (.t 6)) (.o 39 (.bin .add (.t 38) (.c (.pv (.int .i64 1)))) (.o 6 (.mv (.t 39)) .nil))))))))) (.seq (.reg 1 (.o 77 (.mv (.t 5)) (.o 78 (.idx 1 (.t 77) (.c (.pv (.int .i64 0)))) (.o 79 (.load 1 false (.t 78)) (.o 80 (.fld 0 1 false (.t 3)) (.o 81 (.load 1 false (.t 80)) (.o 82 (.bin .eql (.t 79) (.t 81)) (.o 83 (.mv (.t 82)) (.g 84 83 true (.fld 1 1 false (.t 3)) (.g 85 83 true (.load 1 false (.t 84)) (.g 86 83 true (.mv (.t 5)) (.g 87 83 true (.mv (.t 5)) (.g 88 83 true (.len (.t 87)) (.g 89 83 true (.bin .sub (.t 88) (.c (.pv (.int .i64 1)))) (.g 90 83 true (.idx 1 (.t 86) (.t 89)) (.g 91 83 true (.load 1 false (.t 90)) (.g 92 83 true (.idx 3 (.t 85) (.t 91)) (.g 93 83 true (.fld 1 1 false (.t 92)) (.g 94 83 true (.load 1 false (.t 93)) (.g 95 83 true (.len (.t 94)) (.g 96 83 true (.bin .eql (.t 95) (.c (.pv (.int .i64 0)))) (.o 97 (.pick (.t 83) (.t 96) (.c (.pv (.bool false)))) (.o 2 (.mv (.t 97)) .nil))))))))))))))))))))))) .ret)))))), [.t 2])) := by kernel_rfl
theorem c_laws_FnPathTo (bs : List Int) (hb : isU8 bs) : PCon prog 3 [u8s bs] (fun p => p = .bool true) := by
  refine con_of_VS sl_laws_FnPathTo (by simp) (VS_seq (VS_r0 rfl (q_mv rfl (rg_nil (VS_seq (VS_seq (VS_r0 rfl (q_mv rfl (q_len_m rfl (q_gtr rfl rfl (rg_nil ?_)))))))))))
  refine VS_cond rfl (fun c0 => ?_) (fun c0 => ?_)
  · try simp at c0
    refine VS_seq (VS_r0 rfl (q_mv rfl (rg_nil (VS_ret ?_))))
    exact Bd.now ⟨_, rfl, rfl⟩
  · try simp at c0
    refine VS_skip (VS_seq (VS_r0 rfl (q_mv rfl (q_calle rfl (c_spec_DrawPathTo bs hb (by omega)) rfl trivial ?_))))
    rintro _ ⟨t, k, rfl, ha, qvk⟩
    refine q_mv rfl (q_ext rfl rfl (q_ext rfl rfl (q_alloc trivial (q_store rfl rfl rfl rfl rfl rfl ⟨rfl, rfl, by simp, rfl, by simp [isOne]⟩ rfl trivial (q_mv rfl (rg_nil (VS_seq ?_)))))))
    cases hv : validT t
    · skip
      have hs := ha.small
      refine VS_r0 rfl (q_load_ra rfl rfl rfl rfl rfl (by (simp [setAt]; done)) rfl (q_mv rfl (q_callp ((c_impl_PathTo t hs k).to (y := ints []) (by rw [hv]; rfl)) rfl trivial (q_mv rfl (rg_nil (VS_seq (VS_seq (VS_r0 rfl (q_mv rfl (q_load_ra rfl rfl rfl rfl rfl (by (simp [setAt]; done)) rfl (q_mv rfl (q_callp ((c_spec_PathTo t hs k).to (y := ints []) (by rw [hv]; rfl)) rfl trivial (q_callp (x := .bool true) ((c_laws_equalInts _ _ (by (simp; done)) (by (simp; done))).eqT (by rfl)) rfl trivial (q_not rfl (q_mv rfl ?_)))))))))))))))
      refine q_t rfl (q_mv rfl (q_t rfl (q_len_m rfl (q_t rfl (q_eql_v true rfl rfl (decide_eq_true rfl) (q_pick_f rfl rfl (rg_nil ?_)))))))
      refine VS_cond rfl (fun _ => ?_) (fun e => by cases e)
      refine VS_seq (VS_r0 rfl (q_mv rfl (q_load_ra rfl rfl rfl rfl rfl (by (simp [setAt]; done)) rfl (q_mv rfl (q_callp ((c_spec_PathTo t hs k).to (y := ints []) (by rw [hv]; rfl)) rfl trivial (q_callp (x := .bool true) ((c_laws_equalInts _ _ (by (simp; done)) (by (simp; done))).eqT (by rfl)) rfl trivial (q_mv rfl (rg_nil (VS_ret ?_)))))))))
      exact Bd.now ⟨_, rfl, rfl⟩
    · skip
      have hs := ha.small
      have hpc := path_chain hv k
      have hpl2 := hpc.1
      have hh3 := (valid_ok hv).2.1
      have hh1 := (okT_top (valid_ok hv).2.2.1).1
      have hm := ha.many
      have hla := leaf_at hv k
      have hli : 0 ≤ nth (pthT t (k)) ((pthT t (k)).length - 1) ∧ nth (pthT t (k)) ((pthT t (k)).length - 1) < t.ps.length := inT_iff.1 hla.2.1
      have hlc : (nth t.ps (nth (pthT t (k)) ((pthT t (k)).length - 1)).toNat).cs.length = 0 := hla.2.2.1
      refine VS_r0 rfl (q_load_ra rfl rfl rfl rfl rfl (by (simp [setAt]; done)) rfl (q_mv rfl (q_callp ((c_impl_PathTo t hs (k)).to (y := ints (pthT t (k))) (by rw [if_pos hv])) rfl trivial (q_mv rfl (rg_nil (VS_seq (VS_seq (VS_r0 rfl (q_mv rfl (q_load_ra rfl rfl rfl rfl rfl (by (simp [setAt]; done)) rfl (q_mv rfl (q_callp ((c_spec_PathTo t hs (k)).to (y := ints (pthT t (k))) (by rw [if_pos hv])) rfl trivial (q_callp (x := .bool true) ((c_laws_equalInts _ _ (by omega) (by omega)).eqT (by rfl)) rfl trivial (q_not rfl (q_mv rfl ?_)))))))))))))))
      refine q_t rfl (q_mv rfl (q_t rfl (q_len_m rfl (q_t rfl (q_eql_v false rfl rfl (decide_eq_false (by omega)) (q_pick_f rfl rfl (rg_nil ?_)))))))
      refine VS_cond rfl (fun e => by cases e) (fun _ => ?_)
      refine VS_skip (VS_seq (VS_seq (VS_r0 rfl (q_mv rfl (rg_nil (VS_block ?_))))))
      refine VS_bd (Bd.keepL [(3, .ptr 0 0 0), (5, .pv (ints (pthT t k))), (6, .pv (i64 0))] ⟨rfl, rfl, rfl, trivial⟩ ?_)
      refine VS_loop (fun mz E S => ∃ i : Nat, mz = (pthT t k).length - i ∧ (i ≤ (pthT t k).length) ∧ E = env [(3, .ptr 0 0 0), (5, .pv (ints (pthT t k))), (6, .pv (i64 i))] ∧ S = [some ⟨25, 2, [.agg [.pv (i64 t.r), .pv (pgsP t.ps)]]⟩]) ⟨_, 0, rfl, (by omega), rfl, rfl⟩ ?_
      rintro mz _ _ ⟨i, hmeas, g0, rfl, rfl⟩
      refine VS_seq (VS_seq (VS_r0 rfl (q_mv rfl (q_mv rfl (q_len_m rfl (q_lss rfl rfl (rg_nil ?_)))))))
      refine VS_cond rfl (fun c2 => ?_) (fun c2 => ?_)
      · try simp at c2
        have hci := hpc.2.2 i (by omega)
        have hci1 := hci.1
        refine VS_skip (VS_seq (VS_block (VS_seq (VS_r2 [some ⟨25, 2, [.agg [.pv (i64 t.r), .pv (pgsP t.ps)]]⟩] hmix (SubL.sub (by repeat constructor)) (q_mv rfl (q_mv rfl (q_idx_at (f := fun k => i64 k) (xs := pthT t (k)) (m := i) rfl rfl (by omega) (fun _ => rfl) (q_load_c rfl rfl rfl (q_lss_v false rfl rfl (decide_eq_false (by omega)) (q_mv rfl (q_t rfl (q_mv rfl (q_t rfl (q_mv rfl (q_t rfl ?_)))))))))))))))
        refine q_idx_at (f := fun k => i64 k) (xs := pthT t (k)) (m := i) rfl rfl (by omega) (fun _ => rfl) (q_t rfl (q_load_c rfl rfl rfl (q_t rfl (q_fld_r rfl (q_t rfl (q_load_r rfl rfl rfl rfl rfl rfl rfl (q_t rfl (q_len_m rfl (q_t rfl (q_geq_v false rfl rfl (decide_eq_false (by omega)) (q_pick_f rfl rfl (q_mv rfl (q_t rfl (q_mv rfl (q_t rfl ?_)))))))))))))))
        refine q_gtr rfl rfl (q_t rfl (q_mv rfl ?_))
        refine q_b rfl (fun g58 => ?_) (fun g58 => ?_)
        · try simp at g58
          have hcj := (hpc.2.2 (i - 1) (by omega)).1
          have hcc := hci.2 (by omega)
          have hsz : (nth t.ps (nth (pthT t k) (i - 1)).toNat).cs.length ≤ 1000000 := (hs.2 _ hcj.1 hcj.2).2.1
          refine q_t rfl (q_fld_r rfl (q_t rfl (q_load_r rfl rfl rfl rfl rfl rfl rfl (q_t rfl (q_mv rfl (q_t rfl (q_mv rfl (q_t rfl (q_sub_to ((i - 1 : Nat) : Int) rfl rfl (by omega) (inR64 (by omega)) (q_t rfl (q_idx_at (f := fun k => i64 k) (xs := pthT t (k)) (m := i - 1) rfl rfl (by omega) (fun _ => rfl) (q_t rfl (q_load_c rfl rfl rfl (q_t rfl (q_idx_m (f := pgP) (xs := t.ps) (n := nth (pthT t k) (i - 1)) rfl rfl (by omega) (by omega) (fun _ => rfl) ?_)))))))))))))))
          refine q_t rfl (q_fld_c rfl rfl (q_t rfl (q_load_c rfl rfl rfl (q_t rfl (q_mv rfl (q_t rfl (q_mv rfl (q_t rfl (q_idx_at (f := fun k => i64 k) (xs := pthT t (k)) (m := i) rfl rfl (by omega) (fun _ => rfl) (q_t rfl (q_load_c rfl rfl rfl (q_t rfl (q_callp ((c_laws_isIn (nth t.ps (nth (pthT t k) (i - 1)).toNat).cs (nth (pthT t k) i) (by omega)).to (y := .bool true) (congrArg PV.bool hcc)) rfl (Sub.refl _) (q_t rfl (q_not rfl ?_)))))))))))))))
          refine q_t rfl (q_pick_t rfl rfl (q_pick_f rfl rfl (rg_nil ?_)))
          refine VS_cond rfl (fun c3 => ?_) (fun c3 => ?_)
          · exfalso; simp at c3
          · try simp at c3
            refine VS_skip (VS_r0 rfl (q_mv rfl (q_add rfl rfl (inR64 (by omega)) (q_mv rfl (rg_nil ?_)))))
            refine Bd.keepL [(3, .ptr 0 0 0), (5, .pv (ints (pthT t k))), (6, .pv (i64 (i + 1)))] ⟨rfl, rfl, rfl, trivial⟩ ⟨_, ?_, i + 1, rfl, ?_, rfl, rfl⟩
            · omega
            · omega
        · try simp at g58
          refine q_f rfl (q_f rfl (q_f rfl (q_f rfl (q_f rfl (q_f rfl (q_f rfl (q_f rfl (q_f rfl (q_f rfl (q_f rfl (q_f rfl (q_f rfl (q_f rfl (q_f rfl (q_f rfl ?_)))))))))))))))
          refine q_t rfl (q_pick_f rfl rfl (q_pick_f rfl rfl (rg_nil ?_)))
          refine VS_cond rfl (fun e => by cases e) (fun _ => ?_)
          refine VS_skip (VS_r0 rfl (q_mv rfl (q_add rfl rfl (inR64 (by omega)) (q_mv rfl (rg_nil ?_)))))
          refine Bd.keepL [(3, .ptr 0 0 0), (5, .pv (ints (pthT t k))), (6, .pv (i64 (i + 1)))] ⟨rfl, rfl, rfl, trivial⟩ ⟨_, ?_, i + 1, rfl, ?_, rfl, rfl⟩
          · omega
          · omega
      · try simp at c2
        refine VS_exit (VS_seq (VS_r1 hmix rfl (q_mv rfl (q_idx_at (f := fun k => i64 k) (xs := pthT t (k)) (m := 0) rfl rfl (by omega) (fun _ => rfl) (q_load_c rfl rfl rfl (q_fld_r rfl (q_load_r rfl rfl rfl rfl rfl rfl rfl (q_eql_v true rfl rfl (decide_eq_true (by exact hpc.2.1)) (q_mv rfl (q_t rfl (q_fld_r rfl (q_t rfl (q_load_r rfl rfl rfl rfl rfl rfl rfl (q_t rfl (q_mv rfl ?_)))))))))))))))
        refine q_t rfl (q_mv rfl (q_t rfl (q_len_m rfl (q_t rfl (q_sub_to (((pthT t (k)).length - 1 : Nat) : Int) rfl rfl (by omega) (inR64 (by omega)) (q_t rfl (q_idx_at (f := fun k => i64 k) (xs := pthT t (k)) (m := (pthT t (k)).length - 1) rfl rfl (by omega) (fun _ => rfl) (q_t rfl (q_load_c rfl rfl rfl (q_t rfl (q_idx_m (f := pgP) (xs := t.ps) (n := nth (pthT t (k)) ((pthT t (k)).length - 1)) rfl rfl (by omega) (by omega) (fun _ => rfl) (q_t rfl (q_fld_c rfl rfl (q_t rfl (q_load_c rfl rfl rfl ?_)))))))))))))))
        refine q_t rfl (q_len_m rfl (q_t rfl (q_eql_v true rfl rfl (decide_eq_true (by omega)) (q_pick_t rfl rfl (q_mv rfl (rg_nil (VS_ret ?_)))))))
        exact Bd.now ⟨_, rfl, rfl⟩
end Go.V
