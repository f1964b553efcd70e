/- A part of the proofs about laws of the page tree (see the text that bears the law): a small language of steps, its rules, and what the functions of the program return. -/
import Derived.Test.YtfhalijoljgafaaWKbr
import Derived.Test.YtfhalijoljgafaaQP
set_option linter.all false
set_option linter.unusedVariables false
set_option linter.unusedSimpArgs false
set_option maxHeartbeats 4000000
namespace Go.V
open Go.Proofs.Try (prog)
theorem zbw (os : List Nat) : ∀ i, i < 0 → os[i]? = some i := fun i hi => absurd hi (Nat.not_lt_zero i)
set_option maxRecDepth 100000
theorem sl_laws_FnValidTree : slimF prog 3 [(11, 7)] = some (77, (.seq (.reg 0 (.o 2 (.mv (.c (.pv (.bool false)))) .nil)) (.seq (.seq (.reg 0 (.o 7 (.mv (.t 0)) (.o 8 (.len (.t 7)) (.o 9 (.bin .gtr (.t 8) (.c (.pv (.int .i64 1048576)))) .nil)))) (.cond (.t 9) (.seq (.reg 0 (.o 2 (.mv (.c (.pv (.bool true)))) .nil)) .ret) .skip)) (.seq (.reg 0 (.o 10 (.mv (.t 0)) (.o 11 (.call 15 [.t 10]) (.o 3 (.alloc 25 2 (.agg [.pv (.int .i64 0), .nils])) (.op ⟨none, none, .store 2 (.t 3) (.t 11)⟩ .nil))))) (.seq (.reg 0 (.o 12 (.load 2 true (.t 3)) (.o 13 (.call 16 [.t 12]) (.o 4 (.mv (.t 13)) .nil)))) (.seq (.seq (.reg 0 (.o 14 (.mv (.t 4)) (.o 15 (.load 2 true (.t 3)) (.o 16 (.call 17 [.t 15]) (.o 17 (.beq true (.t 14) (.t 16)) (.o 18 (.mv (.t 17)) (.g 19 18 false (.mv (.t 4)) (.g 20 18 false (.not (.t 19)) (.o 21 (.pick (.t 18) (.c (.pv (.bool true))) (.t 20)) .nil))))))))) (.cond (.t 21) (.seq (.reg 0 (.o 22 (.mv (.t 4)) (.o 23 (.load 2 true (.t 3)) (.o 24 (.call 17 [.t 23]) (.o 25 (.beq false (.t 22) (.t 24)) (.o 2 (.mv (.t 25)) .nil)))))) .ret) .skip)) (.seq (.reg 0 (.o 26 (.fld 0 1 false (.t 3)) (.o 27 (.load 1 false (.t 26)) (.o 28 (.build [.pv (.int .i64 0), .nils] [(0, (1, .t 27))]) (.o 5 (.alloc 25 2 (.agg [.pv (.int .i64 0), .nils])) (.op ⟨none, none, .store 2 (.t 5) (.t 28)⟩ .nil)))))) (.seq (.seq (.reg 0 (.o 6 (.mv (.c (.pv (.int .i64 0)))) .nil)) (.block 0 (.loop (.seq (.seq (.reg 0 (.o 29 (.mv (.t 6)) (.o 30 (.fld 1 1 false (.t 3)) (.o 31 (.load 1 false (.t 30)) (.o 32 (.len (.t 31)) (.o 33 (.bin .lss (.t 29) (.t 32)) .nil)))))) (.cond (.t 33) .skip (.exit 0))) (.seq (.block 1 (.reg 6 (.o 37 (.fld 1 1 false (.t 5)) (.o 38 (.load 1 false (.t 37)) (.o 40 (.fld 1 1 false (.t 3)) (.o 41 (.load 1 false (.t 40)) (.o 42 (.mv (.t 6)) (.o 43 (.idx 3 (.t 41) (.t 42)) (.o 44 (.fld 0 1 false (.t 43)) (.o 45 (.load 1 false (.t 44)) (.o 46 (.fld 1 1 false (.t 3)) (.o 47 (.load 1 false (.t 46)) (.o 48 (.mv (.t 6)) (.o 49 (.idx 3 (.t 47) (.t 48)) (.o 50 (.fld 1 1 false (.t 49)) (.o 51 (.load 1 false (.t 50)) (.o 52 (.fld 1 1 false (.t 3)) (.o 53 (.load 1 false (.t 52)) (.o 54 (.mv (.t 6)) (.o 55 (.idx 3 (.t 53) (.t 54)) (.o 56 (.fld 2 1 false (.t 55)) (.o 57 (.load 1 false (.t 56)) (.o 58 (.len (.t 57)) (.or (.o 36 (.lit 30 3 0 [.nils, .nils, .nils] []) (.or (.o 39 (.app 30 3 72 (.t 36) (.t 38)) (.o 59 (.mks 3 1 8 (.pv (.int .i64 0)) (.t 58)) (.o 60 (.build [.nils, .nils, .nils] [(0, (1, .t 45)), (1, (1, .t 51)), (2, (1, .t 59))]) (.o 61 (.lit 30 3 1 [.nils, .nils, .nils] [(0, .t 60)]) (.o 62 (.app 30 3 72 (.t 39) (.t 61)) (.o 63 (.fld 1 1 false (.t 5)) (.last ⟨none, none, .store 1 (.t 63) (.t 62)⟩))))))) (.o 59 (.mks 3 1 8 (.pv (.int .i64 0)) (.t 58)) (.o 60 (.build [.nils, .nils, .nils] [(0, (1, .t 45)), (1, (1, .t 51)), (2, (1, .t 59))]) (.or (.o 39 (.app 30 3 72 (.t 36) (.t 38)) (.o 61 (.lit 30 3 1 [.nils, .nils, .nils] [(0, .t 60)]) (.o 62 (.app 30 3 72 (.t 39) (.t 61)) (.o 63 (.fld 1 1 false (.t 5)) (.last ⟨none, none, .store 1 (.t 63) (.t 62)⟩))))) (.o 61 (.lit 30 3 1 [.nils, .nils, .nils] [(0, .t 60)]) (.o 39 (.app 30 3 72 (.t 36) (.t 38)) (.o 62 (.app 30 3 72 (.t 39) (.t 61)) (.o 63 (.fld 1 1 false (.t 5)) (.last ⟨none, none, .store 1 (.t 63) (.t 62)⟩)))))))))) (.o 59 (.mks 3 1 8 (.pv (.int .i64 0)) (.t 58)) (.o 60 (.build [.nils, .nils, .nils] [(0, (1, .t 45)), (1, (1, .t 51)), (2, (1, .t 59))]) (.or (.o 36 (.lit 30 3 0 [.nils, .nils, .nils] []) (.or (.o 39 (.app 30 3 72 (.t 36) (.t 38)) (.o 61 (.lit 30 3 1 [.nils, .nils, .nils] [(0, .t 60)]) (.o 62 (.app 30 3 72 (.t 39) (.t 61)) (.o 63 (.fld 1 1 false (.t 5)) (.last ⟨none, none, .store 1 (.t 63) (.t 62)⟩))))) (.o 61 (.lit 30 3 1 [.nils, .nils, .nils] [(0, .t 60)]) (.o 39 (.app 30 3 72 (.t 36) (.t 38)) (.o 62 (.app 30 3 72 (.t 39) (.t 61)) (.o 63 (.fld 1 1 false (.t 5)) (.last ⟨none, none, .store 1 (.t 63) (.t 62)⟩))))))) (.o 61 (.lit 30 3 1 [.nils, .nils, .nils] [(0, .t 60)]) (.o 36 (.lit 30 3 0 [.nils, .nils, .nils] []) (.o 39 (.app 30 3 72 (.t 36) (.t 38)) (.o 62 (.app 30 3 72 (.t 39) (.t 61)) (.o 63 (.fld 1 1 false (.t 5)) (.last ⟨none, none, .store 1 (.t 63) (.t 62)⟩))))))))))))))))))))))))))))))))) (.reg 0 (.o 34 (.mv (.t 6)) (.o 35 (.bin .add (.t 34) (.c (.pv (.int .i64 1)))) (.o 6 (.mv (.t 35)) .nil))))))))) (.seq (.reg 0 (.o 64 (.load 2 true (.t 5)) (.o 65 (.call 16 [.t 64]) (.o 66 (.mv (.t 65)) (.g 67 66 true (.build [.pv (.int .i64 0), .nils] []) (.g 68 66 true (.call 16 [.t 67]) (.g 69 66 true (.not (.t 68)) (.o 70 (.pick (.t 66) (.t 69) (.c (.pv (.bool false)))) (.o 71 (.mv (.t 70)) (.g 72 71 true (.build [.nils, .nils, .nils] []) (.g 73 71 true (.lit 30 3 1 [.nils, .nils, .nils] [(0, .t 72)]) (.g 74 71 true (.build [.pv (.int .i64 0), .nils] [(1, (1, .t 73))]) (.g 75 71 true (.call 16 [.t 74]) (.o 76 (.pick (.t 71) (.t 75) (.c (.pv (.bool false)))) (.o 2 (.mv (.t 76)) .nil))))))))))))))) .ret))))))), [.t 2])) := by kernel_rfl
theorem c_laws_FnValidTree (bs : List Int) (hb : isU8 bs) : PCon prog 3 [u8s bs] (fun p => p = .bool true) := by
  refine con_of_VS sl_laws_FnValidTree (by simp) (VS_seq (VS_r0 rfl (q_mv rfl (rg_nil (VS_seq (VS_seq (VS_r0 rfl (q_mv rfl (q_len_m rfl (q_gtr rfl rfl (rg_nil ?_)))))))))))
  refine VS_cond rfl (fun c0 => ?_) (fun c0 => ?_)
  · try simp at c0
    refine VS_seq (VS_r0 rfl (q_mv rfl (rg_nil (VS_ret ?_))))
    exact Bd.now ⟨_, rfl, rfl⟩
  · try simp at c0
    refine VS_skip (VS_seq (VS_r0 rfl (q_mv rfl (q_calle rfl (c_spec_DrawValidTree bs hb (by omega)) rfl trivial ?_))))
    rintro _ ⟨t, rfl, ha⟩
    refine q_alloc trivial (q_store rfl rfl rfl rfl rfl rfl ⟨rfl, rfl, by simp, rfl, by simp [isOne]⟩ rfl trivial (rg_nil (VS_seq ?_)))
    cases hv : validT t
    · skip
      have hs := ha.small
      refine VS_r0 rfl (q_load_ra rfl rfl rfl rfl rfl (by (simp [setAt]; done)) rfl (q_callp (x := .bool false) ((c_impl_ValidTree t hs).to (y := .bool false) (by rw [hv])) rfl trivial (q_mv rfl (rg_nil (VS_seq (VS_seq (VS_r0 rfl (q_mv rfl (q_load_ra rfl rfl rfl rfl rfl (by (simp [setAt]; done)) rfl (q_callp (x := .bool false) ((c_spec_ValidTree t hs).to (y := .bool false) (by rw [hv])) rfl trivial (q_beq_v false rfl rfl (rfl) (q_mv rfl (q_t rfl (q_mv rfl (q_t rfl ?_)))))))))))))))
      refine q_not rfl (q_pick_f rfl rfl (rg_nil ?_))
      refine VS_cond rfl (fun _ => ?_) (fun e => by cases e)
      refine VS_seq (VS_r0 rfl (q_mv rfl (q_load_ra rfl rfl rfl rfl rfl (by (simp [setAt]; done)) rfl (q_callp (x := .bool false) ((c_spec_ValidTree t hs).to (y := .bool false) (by rw [hv])) rfl trivial (q_beq_v true rfl rfl (rfl) (q_mv rfl (rg_nil (VS_ret ?_))))))))
      exact Bd.now ⟨_, rfl, rfl⟩
    · skip
      have hs := ha.small
      have hm := ha.many
      refine VS_r0 rfl (q_load_ra rfl rfl rfl rfl rfl (by (simp [setAt]; done)) rfl (q_callp (x := .bool true) ((c_impl_ValidTree t hs).to (y := .bool true) (by rw [hv])) rfl trivial (q_mv rfl (rg_nil (VS_seq (VS_seq (VS_r0 rfl (q_mv rfl (q_load_ra rfl rfl rfl rfl rfl (by (simp [setAt]; done)) rfl (q_callp (x := .bool true) ((c_spec_ValidTree t hs).to (y := .bool true) (by rw [hv])) rfl trivial (q_beq_v false rfl rfl (rfl) (q_mv rfl (q_t rfl (q_mv rfl (q_t rfl ?_)))))))))))))))
      refine q_not rfl (q_pick_f rfl rfl (rg_nil ?_))
      refine VS_cond rfl (fun e => by cases e) (fun _ => ?_)
      refine VS_skip (VS_seq (VS_r0 rfl (q_fld_r rfl (q_load_r rfl rfl rfl rfl rfl rfl rfl (q_build rfl (q_alloc trivial (q_store rfl rfl rfl rfl rfl rfl ⟨rfl, rfl, by simp, rfl, by simp [isOne]⟩ rfl trivial (rg_nil ?_))))))))
      refine VS_bd (Bd.pad ?_)
      refine VS_bd (Bd.frzF 2 1 0 1 30 3 (xs := []) (ps := []) (by decide) rfl rfl rfl rfl rfl ?_)
      refine VS_seq (VS_seq (VS_r0 rfl (q_mv rfl (rg_nil (VS_block ?_)))))
      refine VS_bd (Bd.keepL [(3, .ptr 0 0 0), (5, .ptr 1 0 0), (6, .pv (i64 0))] ⟨rfl, rfl, rfl, trivial⟩ ?_)
      refine VS_loop (fun mz E S => ∃ i : Nat, ∃ zs : List Pg, mz = t.ps.length - i ∧ (i ≤ t.ps.length) ∧ (zs = (t.ps.take i).map zrG) ∧ (zs.length = i) ∧ E = env [(3, .ptr 0 0 0), (5, .ptr 1 0 0), (6, .pv (i64 i))] ∧ S = [some ⟨25, 2, [.agg [.pv (i64 t.r), .pv (pgsP t.ps)]]⟩, some ⟨25, 2, [.agg [.pv (i64 t.r), .pv (pgsP zs)]]⟩, none]) ⟨_, 0, [], rfl, (by omega), rfl, rfl, rfl, rfl⟩ ?_
      rintro mz _ _ ⟨i, zs, hmeas, g0, g1, g2, rfl, rfl⟩
      refine VS_seq (VS_seq (VS_r0 rfl (q_mv rfl (q_fld_r rfl (q_load_r rfl rfl rfl rfl rfl rfl rfl (q_len_m rfl (q_lss rfl rfl (rg_nil ?_))))))))
      refine VS_cond rfl (fun c2 => ?_) (fun c2 => ?_)
      · try simp at c2
        have hsv := valid_small hv (i := i) (by omega)
        refine VS_skip (VS_seq (VS_block (VS_r6 [some ⟨25, 2, [.agg [.pv (i64 t.r), .pv (pgsP t.ps)]]⟩, some ⟨25, 2, [.agg [.pv (i64 t.r), .pv (pgsP zs)]]⟩] hmix (SubL.sub (by repeat constructor)) (q_fld_r rfl (q_load_r rfl rfl rfl rfl rfl rfl rfl (q_fld_r rfl (q_load_r rfl rfl rfl rfl rfl rfl rfl (q_mv rfl (q_idx_m (f := pgP) (xs := t.ps) (n := (i : Int)) rfl rfl (by omega) (by omega) (fun _ => rfl) ?_)))))))))
        rw [Int.toNat_natCast]
        refine q_fld_c rfl rfl (q_load_c rfl rfl rfl (q_fld_r rfl (q_load_r rfl rfl rfl rfl rfl rfl rfl (q_mv rfl (q_idx_m (f := pgP) (xs := t.ps) (n := (i : Int)) rfl rfl (by omega) (by omega) (fun _ => rfl) ?_)))))
        rw [Int.toNat_natCast]
        refine q_fld_c rfl rfl (q_load_c rfl rfl rfl (q_fld_r rfl (q_load_r rfl rfl rfl rfl rfl rfl rfl (q_mv rfl (q_idx_m (f := pgP) (xs := t.ps) (n := (i : Int)) rfl rfl (by omega) (by omega) (fun _ => rfl) ?_)))))
        rw [Int.toNat_natCast]
        refine q_fld_c rfl rfl (q_load_c rfl rfl rfl (q_len_m rfl ?_))
        refine q_or ?_ ?_
        · skip
          refine q_litx0 (Sub.app _ _) ?_
          refine q_or ?_ ?_
          · skip
            refine q_app_z (ys := dG zs) rfl (elems_G _) (cell_G _) ⟨by simp; omega, by simp [maxLen]; omega⟩ ⟨(Sub.app _ _), ?_⟩
            refine q_mks rfl ⟨by omega, by omega, by omega⟩ (Sub.app _ _) (q_build rfl (q_litxA (sz := 3) (xs := [[.pv (ints (nth t.ps i).ks), .pv (ints (nth t.ps i).cs), .own 4 (nth t.ps i).vs.length]]) rfl rfl rfl rfl (Sub.app _ _) ?_))
            refine q_app_d (xs := dG zs) (ys := [.agg [.pv (ints (nth t.ps i).ks), .pv (ints (nth t.ps i).cs), .own _ (nth t.ps i).vs.length]]) rfl rfl (by rfl) rfl ⟨by simp; omega, by simp [maxLen]; omega⟩ ⟨(Sub.app _ _), ?_⟩
            refine q_fld_r rfl (q_last (q_storeF rfl rfl rfl rfl rfl (by (simp; done)) trivial (rg_nil ?_)))
            refine VS_bd (Bd.frzV 6 4 (qs := zs) (g := nth t.ps i) (by decide) rfl rfl (Bd.frzF 6 1 0 1 30 3 (xs := dG (zs ++ [zrG (nth t.ps i)])) (by decide) rfl (toPVs_dG _) rfl rfl (by exact congrArg some (ownD_len (by simp))) ?_))
            refine VS_r0 rfl (q_mv rfl (q_add rfl rfl (inR64 (by omega)) (q_mv rfl (rg_nil ?_))))
            refine Bd.renL [0, 1, 2] (zbw _) (by simp) [(3, .ptr 0 0 0), (5, .ptr 1 0 0), (6, .pv (i64 (i + 1)))] ⟨rfl, rfl, rfl, trivial⟩ rfl ⟨_, ?_, i + 1, zs ++ [zrG (nth t.ps i)], rfl, ?_, ?_, ?_, rfl, rfl⟩
            · omega
            · omega
            · rw [take_succ_nth (by omega), g1]; simp
            · simp; omega
          · skip
            refine q_mks rfl ⟨by omega, by omega, by omega⟩ (Sub.app _ _) (q_build rfl ?_)
            refine q_or ?_ ?_
            · skip
              refine q_app_z (ys := dG zs) rfl (elems_G _) (cell_G _) ⟨by simp; omega, by simp [maxLen]; omega⟩ ⟨(Sub.app _ _), ?_⟩
              refine q_litxA (sz := 3) (xs := [[.pv (ints (nth t.ps i).ks), .pv (ints (nth t.ps i).cs), .own 3 (nth t.ps i).vs.length]]) rfl rfl rfl rfl (Sub.app _ _) ?_
              refine q_app_d (xs := dG zs) (ys := [.agg [.pv (ints (nth t.ps i).ks), .pv (ints (nth t.ps i).cs), .own _ (nth t.ps i).vs.length]]) rfl rfl (by rfl) rfl ⟨by simp; omega, by simp [maxLen]; omega⟩ ⟨(Sub.app _ _), ?_⟩
              refine q_fld_r rfl (q_last (q_storeF rfl rfl rfl rfl rfl (by (simp; done)) trivial (rg_nil ?_)))
              refine VS_bd (Bd.frzV 6 3 (qs := zs) (g := nth t.ps i) (by decide) rfl rfl (Bd.frzF 6 1 0 1 30 3 (xs := dG (zs ++ [zrG (nth t.ps i)])) (by decide) rfl (toPVs_dG _) rfl rfl (by exact congrArg some (ownD_len (by simp))) ?_))
              refine VS_r0 rfl (q_mv rfl (q_add rfl rfl (inR64 (by omega)) (q_mv rfl (rg_nil ?_))))
              refine Bd.renL [0, 1, 2] (zbw _) (by simp) [(3, .ptr 0 0 0), (5, .ptr 1 0 0), (6, .pv (i64 (i + 1)))] ⟨rfl, rfl, rfl, trivial⟩ rfl ⟨_, ?_, i + 1, zs ++ [zrG (nth t.ps i)], rfl, ?_, ?_, ?_, rfl, rfl⟩
              · omega
              · omega
              · rw [take_succ_nth (by omega), g1]; simp
              · simp; omega
            · skip
              refine q_litxA (sz := 3) (xs := [[.pv (ints (nth t.ps i).ks), .pv (ints (nth t.ps i).cs), .own 3 (nth t.ps i).vs.length]]) rfl rfl rfl rfl (Sub.app _ _) ?_
              refine q_app_z (ys := dG zs) rfl (elems_G _) (cell_G _) ⟨by simp; omega, by simp [maxLen]; omega⟩ ⟨(Sub.app _ _), ?_⟩
              refine q_app_d (xs := dG zs) (ys := [.agg [.pv (ints (nth t.ps i).ks), .pv (ints (nth t.ps i).cs), .own _ (nth t.ps i).vs.length]]) rfl rfl (by rfl) rfl ⟨by simp; omega, by simp [maxLen]; omega⟩ ⟨(Sub.app _ _), ?_⟩
              refine q_fld_r rfl (q_last (q_storeF rfl rfl rfl rfl rfl (by (simp; done)) trivial (rg_nil ?_)))
              refine VS_bd (Bd.frzV 6 3 (qs := zs) (g := nth t.ps i) (by decide) rfl rfl (Bd.frzF 6 1 0 1 30 3 (xs := dG (zs ++ [zrG (nth t.ps i)])) (by decide) rfl (toPVs_dG _) rfl rfl (by exact congrArg some (ownD_len (by simp))) ?_))
              refine VS_r0 rfl (q_mv rfl (q_add rfl rfl (inR64 (by omega)) (q_mv rfl (rg_nil ?_))))
              refine Bd.renL [0, 1, 2] (zbw _) (by simp) [(3, .ptr 0 0 0), (5, .ptr 1 0 0), (6, .pv (i64 (i + 1)))] ⟨rfl, rfl, rfl, trivial⟩ rfl ⟨_, ?_, i + 1, zs ++ [zrG (nth t.ps i)], rfl, ?_, ?_, ?_, rfl, rfl⟩
              · omega
              · omega
              · rw [take_succ_nth (by omega), g1]; simp
              · simp; omega
        · skip
          refine q_mks rfl ⟨by omega, by omega, by omega⟩ (Sub.app _ _) (q_build rfl ?_)
          refine q_or ?_ ?_
          · skip
            refine q_litx0 (Sub.app _ _) ?_
            refine q_or ?_ ?_
            · skip
              refine q_app_z (ys := dG zs) rfl (elems_G _) (cell_G _) ⟨by simp; omega, by simp [maxLen]; omega⟩ ⟨(Sub.app _ _), ?_⟩
              refine q_litxA (sz := 3) (xs := [[.pv (ints (nth t.ps i).ks), .pv (ints (nth t.ps i).cs), .own 3 (nth t.ps i).vs.length]]) rfl rfl rfl rfl (Sub.app _ _) ?_
              refine q_app_d (xs := dG zs) (ys := [.agg [.pv (ints (nth t.ps i).ks), .pv (ints (nth t.ps i).cs), .own _ (nth t.ps i).vs.length]]) rfl rfl (by rfl) rfl ⟨by simp; omega, by simp [maxLen]; omega⟩ ⟨(Sub.app _ _), ?_⟩
              refine q_fld_r rfl (q_last (q_storeF rfl rfl rfl rfl rfl (by (simp; done)) trivial (rg_nil ?_)))
              refine VS_bd (Bd.frzV 6 3 (qs := zs) (g := nth t.ps i) (by decide) rfl rfl (Bd.frzF 6 1 0 1 30 3 (xs := dG (zs ++ [zrG (nth t.ps i)])) (by decide) rfl (toPVs_dG _) rfl rfl (by exact congrArg some (ownD_len (by simp))) ?_))
              refine VS_r0 rfl (q_mv rfl (q_add rfl rfl (inR64 (by omega)) (q_mv rfl (rg_nil ?_))))
              refine Bd.renL [0, 1, 2] (zbw _) (by simp) [(3, .ptr 0 0 0), (5, .ptr 1 0 0), (6, .pv (i64 (i + 1)))] ⟨rfl, rfl, rfl, trivial⟩ rfl ⟨_, ?_, i + 1, zs ++ [zrG (nth t.ps i)], rfl, ?_, ?_, ?_, rfl, rfl⟩
              · omega
              · omega
              · rw [take_succ_nth (by omega), g1]; simp
              · simp; omega
            · skip
              refine q_litxA (sz := 3) (xs := [[.pv (ints (nth t.ps i).ks), .pv (ints (nth t.ps i).cs), .own 3 (nth t.ps i).vs.length]]) rfl rfl rfl rfl (Sub.app _ _) ?_
              refine q_app_z (ys := dG zs) rfl (elems_G _) (cell_G _) ⟨by simp; omega, by simp [maxLen]; omega⟩ ⟨(Sub.app _ _), ?_⟩
              refine q_app_d (xs := dG zs) (ys := [.agg [.pv (ints (nth t.ps i).ks), .pv (ints (nth t.ps i).cs), .own _ (nth t.ps i).vs.length]]) rfl rfl (by rfl) rfl ⟨by simp; omega, by simp [maxLen]; omega⟩ ⟨(Sub.app _ _), ?_⟩
              refine q_fld_r rfl (q_last (q_storeF rfl rfl rfl rfl rfl (by (simp; done)) trivial (rg_nil ?_)))
              refine VS_bd (Bd.frzV 6 3 (qs := zs) (g := nth t.ps i) (by decide) rfl rfl (Bd.frzF 6 1 0 1 30 3 (xs := dG (zs ++ [zrG (nth t.ps i)])) (by decide) rfl (toPVs_dG _) rfl rfl (by exact congrArg some (ownD_len (by simp))) ?_))
              refine VS_r0 rfl (q_mv rfl (q_add rfl rfl (inR64 (by omega)) (q_mv rfl (rg_nil ?_))))
              refine Bd.renL [0, 1, 2] (zbw _) (by simp) [(3, .ptr 0 0 0), (5, .ptr 1 0 0), (6, .pv (i64 (i + 1)))] ⟨rfl, rfl, rfl, trivial⟩ rfl ⟨_, ?_, i + 1, zs ++ [zrG (nth t.ps i)], rfl, ?_, ?_, ?_, rfl, rfl⟩
              · omega
              · omega
              · rw [take_succ_nth (by omega), g1]; simp
              · simp; omega
          · skip
            refine q_litxA (sz := 3) (xs := [[.pv (ints (nth t.ps i).ks), .pv (ints (nth t.ps i).cs), .own 3 (nth t.ps i).vs.length]]) rfl rfl rfl rfl (Sub.app _ _) (q_litx0 (Sub.app _ _) ?_)
            refine q_app_z (ys := dG zs) rfl (elems_G _) (cell_G _) ⟨by simp; omega, by simp [maxLen]; omega⟩ ⟨(Sub.app _ _), ?_⟩
            refine q_app_d (xs := dG zs) (ys := [.agg [.pv (ints (nth t.ps i).ks), .pv (ints (nth t.ps i).cs), .own _ (nth t.ps i).vs.length]]) rfl rfl (by rfl) rfl ⟨by simp; omega, by simp [maxLen]; omega⟩ ⟨(Sub.app _ _), ?_⟩
            refine q_fld_r rfl (q_last (q_storeF rfl rfl rfl rfl rfl (by (simp; done)) trivial (rg_nil ?_)))
            refine VS_bd (Bd.frzV 6 3 (qs := zs) (g := nth t.ps i) (by decide) rfl rfl (Bd.frzF 6 1 0 1 30 3 (xs := dG (zs ++ [zrG (nth t.ps i)])) (by decide) rfl (toPVs_dG _) rfl rfl (by exact congrArg some (ownD_len (by simp))) ?_))
            refine VS_r0 rfl (q_mv rfl (q_add rfl rfl (inR64 (by omega)) (q_mv rfl (rg_nil ?_))))
            refine Bd.renL [0, 1, 2] (zbw _) (by simp) [(3, .ptr 0 0 0), (5, .ptr 1 0 0), (6, .pv (i64 (i + 1)))] ⟨rfl, rfl, rfl, trivial⟩ rfl ⟨_, ?_, i + 1, zs ++ [zrG (nth t.ps i)], rfl, ?_, ?_, ?_, rfl, rfl⟩
            · omega
            · omega
            · rw [take_succ_nth (by omega), g1]; simp
            · simp; omega
      · try simp at c2
        have e : zs = t.ps.map zrG := by rw [g1, show i = t.ps.length by omega, List.take_length]
        have hzt : (⟨t.r, zs⟩ : Pt) = zrT t := by rw [e]; rfl
        have hv2 : validT ⟨t.r, zs⟩ = true := by rw [hzt]; exact zr_valid hv
        have hzs : smallT ⟨t.r, zs⟩ := valid_smallT hv2
        refine VS_exit (VS_seq (VS_r0 rfl (q_load_ra rfl rfl rfl rfl rfl (by (simp; done)) rfl (q_callp (x := .bool true) ((c_impl_ValidTree (⟨t.r, zs⟩) hzs).to (y := .bool true) (congrArg PV.bool hv2)) rfl trivial (q_mv rfl (q_t rfl (q_build rfl (q_t rfl ?_))))))))
        refine q_callp (x := .bool false) ((c_impl_ValidTree (⟨0, []⟩) ⟨by simp, fun i h0 h1 => by simp at h1; omega⟩).to (y := .bool false) (congrArg PV.bool no_page)) rfl trivial ?_
        refine q_t rfl (q_not rfl (q_pick_t rfl rfl (q_mv rfl (q_t rfl (q_build rfl (q_t rfl (q_lit (xs := [pgP ⟨[], [], []⟩]) rfl rfl rfl rfl (q_t rfl (q_build rfl (q_t rfl ?_))))))))))
        refine q_callp (x := .bool true) ((c_impl_ValidTree (⟨0, [⟨[], [], []⟩]⟩) ⟨by simp, fun i h0 h1 => by have e : i = 0 := (by simp at h1; omega); subst e; exact ⟨Nat.zero_le _, Nat.zero_le _, Nat.zero_le _⟩⟩).to (y := .bool true) (congrArg PV.bool one_page)) rfl trivial ?_
        refine q_pick_t rfl rfl (q_mv rfl (rg_nil (VS_ret ?_)))
        exact Bd.now ⟨_, rfl, rfl⟩
end Go.V
