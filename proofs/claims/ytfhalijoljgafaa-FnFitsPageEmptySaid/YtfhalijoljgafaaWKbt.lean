/- A part of the proofs about laws of the page tree (see the text that bears the law): a small language of steps, its rules, and what the functions of the program return. -/
import Derived.Test.YtfhalijoljgafaaWKbs
set_option linter.all false
set_option linter.unusedVariables false
set_option linter.unusedSimpArgs false
set_option maxHeartbeats 4000000
namespace Go.V
open Go.Proofs.Try (prog)
set_option maxRecDepth 100000
theorem sl_laws_FnFitsPage : slimF prog 12 = some (53, (.seq (.reg 0 (.o 2 (.mv (.c (.pv (.bool false)))) .nil)) (.seq (.seq (.reg 0 (.o 6 (.mv (.t 0)) (.o 7 (.len (.t 6)) (.o 8 (.bin .gtr (.t 7) (.c (.pv (.int .i64 1048576)))) .nil)))) (.cond (.t 8) (.seq (.reg 0 (.o 2 (.mv (.c (.pv (.bool true)))) .nil)) .ret) .skip)) (.seq (.reg 0 (.o 9 (.mv (.t 0)) (.o 10 (.call 38 [.t 9]) (.o 3 (.alloc 30 3 (.agg [.nils, .nils, .nils])) (.op ⟨none, none, .store 3 (.t 3) (.t 10)⟩ .nil))))) (.seq (.reg 0 (.o 11 (.load 3 true (.t 3)) (.o 12 (.call 39 [.t 11]) (.o 4 (.mv (.t 12)) .nil)))) (.seq (.seq (.reg 0 (.o 13 (.mv (.t 4)) (.o 14 (.load 3 true (.t 3)) (.o 15 (.call 40 [.t 14]) (.o 16 (.beq true (.t 13) (.t 15)) (.o 17 (.mv (.t 16)) (.g 18 17 false (.mv (.t 4)) (.g 19 17 false (.not (.t 18)) (.o 20 (.pick (.t 17) (.c (.pv (.bool true))) (.t 19)) .nil))))))))) (.cond (.t 20) (.seq (.reg 0 (.o 21 (.mv (.t 4)) (.o 22 (.load 3 true (.t 3)) (.o 23 (.call 40 [.t 22]) (.o 24 (.beq false (.t 21) (.t 23)) (.o 2 (.mv (.t 24)) .nil)))))) .ret) .skip)) (.seq (.reg 2 (.o 25 (.lit 3 1 0 [.pv (.int .i64 0)] []) (.o 26 (.fld 0 1 false (.t 3)) (.o 27 (.load 1 false (.t 26)) (.o 29 (.lit 3 1 1 [.pv (.int .i64 0)] [(0, .c (.pv (.int .i64 100)))]) (.o 31 (.fld 1 1 false (.t 3)) (.o 32 (.load 1 false (.t 31)) (.o 33 (.fld 2 1 false (.t 3)) (.o 34 (.load 1 false (.t 33)) (.or (.o 28 (.app 3 1 8 (.t 25) (.t 27)) (.or (.o 30 (.app 3 1 8 (.t 28) (.t 29)) (.o 35 (.build [.nils, .nils, .nils] [(0, (1, .t 30)), (1, (1, .t 32)), (2, (1, .t 34))]) (.o 5 (.alloc 30 3 (.agg [.nils, .nils, .nils])) (.last ⟨none, none, .store 3 (.t 5) (.t 35)⟩)))) (.o 5 (.alloc 30 3 (.agg [.nils, .nils, .nils])) (.o 30 (.app 3 1 8 (.t 28) (.t 29)) (.o 35 (.build [.nils, .nils, .nils] [(0, (1, .t 30)), (1, (1, .t 32)), (2, (1, .t 34))]) (.last ⟨none, none, .store 3 (.t 5) (.t 35)⟩)))))) (.o 5 (.alloc 30 3 (.agg [.nils, .nils, .nils])) (.o 28 (.app 3 1 8 (.t 25) (.t 27)) (.o 30 (.app 3 1 8 (.t 28) (.t 29)) (.o 35 (.build [.nils, .nils, .nils] [(0, (1, .t 30)), (1, (1, .t 32)), (2, (1, .t 34))]) (.last ⟨none, none, .store 3 (.t 5) (.t 35)⟩))))))))))))))) (.seq (.reg 0 (.o 36 (.load 3 true (.t 5)) (.o 37 (.call 39 [.t 36]) (.o 38 (.not (.t 37)) (.o 39 (.mv (.t 38)) (.g 40 39 true (.fld 1 1 false (.t 3)) (.g 41 39 true (.load 1 false (.t 40)) (.g 42 39 true (.len (.t 41)) (.g 43 39 true (.bin .eql (.t 42) (.c (.pv (.int .i64 0)))) (.g 44 39 true (.mv (.t 43)) (.g 45 44 false (.fld 0 1 false (.t 3)) (.g 46 44 false (.load 1 false (.t 45)) (.g 47 44 false (.fld 1 1 false (.t 3)) (.g 48 44 false (.load 1 false (.t 47)) (.g 49 44 false (.build [.nils, .nils] [(0, (1, .t 46)), (1, (1, .t 48))]) (.g 50 44 false (.call 41 [.t 49]) (.g 51 39 true (.pick (.t 44) (.c (.pv (.bool true))) (.t 50)) (.o 52 (.pick (.t 39) (.t 51) (.c (.pv (.bool false)))) (.o 2 (.mv (.t 52)) .nil))))))))))))))))))) .ret)))))), [.t 2])) := by kernel_rfl
theorem c_laws_FnFitsPage (bs : List Int) (hb : isU8 bs) : PCon prog 12 [u8s bs] (fun p => p = .bool true) := by
  refine con_of_VS sl_laws_FnFitsPage (by simp) (VS_seq (VS_r0 rfl (q_mv rfl (rg_nil (VS_seq (VS_seq (VS_r0 rfl (q_mv rfl (q_len_m rfl (q_gtr rfl rfl (rg_nil ?_)))))))))))
  refine VS_cond rfl (fun c0 => ?_) (fun c0 => ?_)
  · try simp at c0
    refine VS_seq (VS_r0 rfl (q_mv rfl (rg_nil (VS_ret ?_))))
    exact Bd.now ⟨_, rfl, rfl⟩
  · try simp at c0
    refine VS_skip (VS_seq (VS_r0 rfl (q_mv rfl (q_calle rfl (c_spec_DrawFitsPage bs hb (by omega)) rfl trivial ?_))))
    rintro _ ⟨g, rfl, hg⟩
    refine q_alloc trivial (q_store rfl rfl rfl rfl rfl rfl ⟨rfl, rfl, by simp, rfl, by simp [isOne]⟩ rfl trivial (rg_nil (VS_seq ?_)))
    cases hf : fitsG g
    · skip
      have hgk := hg.1
      have hgc := hg.2.1
      have hgv := hg.2.2
      refine VS_r0 rfl (q_load_ra rfl rfl rfl rfl rfl (by (simp [setAt]; done)) rfl (q_callp (x := .bool false) ((c_impl_FitsPage g hg).to (y := .bool false) (by rw [hf])) rfl trivial (q_mv rfl (rg_nil (VS_seq (VS_seq (VS_r0 rfl (q_mv rfl (q_load_ra rfl rfl rfl rfl rfl (by (simp [setAt]; done)) rfl (q_callp (x := .bool false) ((c_spec_FitsPage g hg).to (y := .bool false) (by rw [hf])) rfl trivial (q_beq_v false rfl rfl (rfl) (q_mv rfl (q_t rfl (q_mv rfl (q_t rfl ?_)))))))))))))))
      refine q_not rfl (q_pick_f rfl rfl (rg_nil ?_))
      refine VS_cond rfl (fun _ => ?_) (fun e => by cases e)
      refine VS_seq (VS_r0 rfl (q_mv rfl (q_load_ra rfl rfl rfl rfl rfl (by (simp [setAt]; done)) rfl (q_callp (x := .bool false) ((c_spec_FitsPage g hg).to (y := .bool false) (by rw [hf])) rfl trivial (q_beq_v true rfl rfl (rfl) (q_mv rfl (rg_nil (VS_ret ?_))))))))
      exact Bd.now ⟨_, rfl, rfl⟩
    · skip
      have hgk := hg.1
      have hgc := hg.2.1
      have hgv := hg.2.2
      have h4 := fits_four hf
      refine VS_r0 rfl (q_load_ra rfl rfl rfl rfl rfl (by (simp [setAt]; done)) rfl (q_callp (x := .bool true) ((c_impl_FitsPage g hg).to (y := .bool true) (by rw [hf])) rfl trivial (q_mv rfl (rg_nil (VS_seq (VS_seq (VS_r0 rfl (q_mv rfl (q_load_ra rfl rfl rfl rfl rfl (by (simp [setAt]; done)) rfl (q_callp (x := .bool true) ((c_spec_FitsPage g hg).to (y := .bool true) (by rw [hf])) rfl trivial (q_beq_v false rfl rfl (rfl) (q_mv rfl (q_t rfl (q_mv rfl (q_t rfl ?_)))))))))))))))
      refine q_not rfl (q_pick_f rfl rfl (rg_nil ?_))
      refine VS_cond rfl (fun e => by cases e) (fun _ => ?_)
      refine VS_skip (VS_seq (VS_r2 [some ⟨30, 3, [.agg [.pv (ints g.ks), .pv (ints g.cs), .pv (ints g.vs)]]⟩] hmix (SubL.sub (by repeat constructor)) (q_lit0 (q_fld_r rfl (q_load_r rfl rfl rfl rfl rfl rfl rfl (q_lit (xs := [i64 100]) rfl rfl rfl rfl (q_fld_r rfl (q_load_r rfl rfl rfl rfl rfl rfl rfl (q_fld_r rfl (q_load_r rfl rfl rfl rfl rfl rfl rfl ?_))))))))))
      refine q_or ?_ ?_
      · skip
        refine q_app_zm (ys := g.ks) (f := fun k => .pv (i64 k)) rfl (elems_I _) (cell_I _) ⟨by omega, by omega⟩ (Sub.app _ _) ?_
        refine q_or ?_ ?_
        · skip
          refine q_app_dm (xs := g.ks) (ys := [100]) (f := fun k => .pv (i64 k)) rfl rfl rfl rfl ⟨by simp; omega, by simp; omega⟩ (Sub.app _ _) (q_build3 (dx := ownD _ (dI (g.ks ++ [100]))) (dy := .pv (ints g.cs)) (dw := .pv (ints g.vs)) rfl rfl rfl cellsD_own rfl rfl (q_alloc (Sub.app _ _) (q_last (q_store rfl rfl rfl rfl rfl rfl ⟨rfl, rfl, by simp, by simp [setAt, isCell_own, isCell_sl, isCell_int, isCell_nils], by simp [isOne]⟩ rfl trivial (rg_nil ?_)))))
          refine VS_bd (Bd.frzF 2 3 0 0 3 1 (xs := dI (g.ks ++ [100])) (by decide) rfl (toPVs_dI _) rfl rfl rfl ?_)
          refine VS_seq (VS_r0 rfl (q_load_ra rfl rfl rfl rfl rfl (by (simp [setAt]; done)) rfl (q_callp (x := .bool false) ((c_impl_FitsPage ⟨g.ks ++ [100], g.cs, g.vs⟩ ⟨by simp; omega, hgc, hgv⟩).to (y := .bool false) (by rw [fits_hundred rfl])) rfl trivial (q_not rfl (q_mv rfl (q_t rfl (q_fld_r rfl (q_t rfl (q_load_r rfl rfl rfl rfl rfl rfl rfl (q_t rfl (q_len_m rfl (q_t rfl (q_eql rfl rfl (q_t rfl (q_mv rfl ?_)))))))))))))))
          refine q_b rfl (fun g44 => ?_) (fun g44 => ?_)
          · try simp at g44
            refine q_t rfl (q_fld_r rfl (q_t rfl (q_load_r rfl rfl rfl rfl rfl rfl rfl (q_t rfl (q_fld_r rfl (q_t rfl (q_load_r rfl rfl rfl rfl rfl rfl rfl (q_t rfl (q_build rfl (q_t rfl (q_callp ((c_impl_ValidInner g.ks g.cs (by omega) (by omega)).to (y := .bool true) (by rw [fits_good hf (by (intro e; simp_all; done))])) rfl trivial (q_t rfl (q_pick_f rfl rfl (q_pick_t rfl rfl (q_mv rfl ?_)))))))))))))))
            refine rg_nil (VS_ret ?_)
            exact Bd.now ⟨_, rfl, rfl⟩
          · try simp at g44
            refine q_f rfl (q_f rfl (q_f rfl (q_f rfl (q_f rfl (q_f rfl (q_t rfl (q_pick_t rfl rfl (q_pick_t rfl rfl (q_mv rfl (rg_nil (VS_ret ?_)))))))))))
            exact Bd.now ⟨_, rfl, rfl⟩
        · skip
          refine q_alloc (Sub.app _ _) (q_app_dm (xs := g.ks) (ys := [100]) (f := fun k => .pv (i64 k)) rfl rfl rfl rfl ⟨by simp; omega, by simp; omega⟩ (Sub.app _ _) (q_build3 (dx := ownD _ (dI (g.ks ++ [100]))) (dy := .pv (ints g.cs)) (dw := .pv (ints g.vs)) rfl rfl rfl cellsD_own rfl rfl (q_last (q_store rfl rfl rfl rfl rfl rfl ⟨rfl, rfl, by simp, by simp [setAt, isCell_own, isCell_sl, isCell_int, isCell_nils], by simp [isOne]⟩ rfl trivial (rg_nil ?_)))))
          refine VS_bd (Bd.frzF 3 2 0 0 3 1 (xs := dI (g.ks ++ [100])) (by decide) rfl (toPVs_dI _) rfl rfl rfl ?_)
          refine VS_seq (VS_r0 rfl (q_load_ra rfl rfl rfl rfl rfl (by (simp [setAt]; done)) rfl (q_callp (x := .bool false) ((c_impl_FitsPage ⟨g.ks ++ [100], g.cs, g.vs⟩ ⟨by simp; omega, hgc, hgv⟩).to (y := .bool false) (by rw [fits_hundred rfl])) rfl trivial (q_not rfl (q_mv rfl (q_t rfl (q_fld_r rfl (q_t rfl (q_load_r rfl rfl rfl rfl rfl rfl rfl (q_t rfl (q_len_m rfl (q_t rfl (q_eql rfl rfl (q_t rfl (q_mv rfl ?_)))))))))))))))
          refine q_b rfl (fun g44 => ?_) (fun g44 => ?_)
          · try simp at g44
            refine q_t rfl (q_fld_r rfl (q_t rfl (q_load_r rfl rfl rfl rfl rfl rfl rfl (q_t rfl (q_fld_r rfl (q_t rfl (q_load_r rfl rfl rfl rfl rfl rfl rfl (q_t rfl (q_build rfl (q_t rfl (q_callp ((c_impl_ValidInner g.ks g.cs (by omega) (by omega)).to (y := .bool true) (by rw [fits_good hf (by (intro e; simp_all; done))])) rfl trivial (q_t rfl (q_pick_f rfl rfl (q_pick_t rfl rfl (q_mv rfl ?_)))))))))))))))
            refine rg_nil (VS_ret ?_)
            exact Bd.now ⟨_, rfl, rfl⟩
          · try simp at g44
            refine q_f rfl (q_f rfl (q_f rfl (q_f rfl (q_f rfl (q_f rfl (q_t rfl (q_pick_t rfl rfl (q_pick_t rfl rfl (q_mv rfl (rg_nil (VS_ret ?_)))))))))))
            exact Bd.now ⟨_, rfl, rfl⟩
      · skip
        refine q_alloc (Sub.app _ _) (q_app_zm (ys := g.ks) (f := fun k => .pv (i64 k)) rfl (elems_I _) (cell_I _) ⟨by omega, by omega⟩ (Sub.app _ _) (q_app_dm (xs := g.ks) (ys := [100]) (f := fun k => .pv (i64 k)) rfl rfl rfl rfl ⟨by simp; omega, by simp; omega⟩ (Sub.app _ _) (q_build3 (dx := ownD _ (dI (g.ks ++ [100]))) (dy := .pv (ints g.cs)) (dw := .pv (ints g.vs)) rfl rfl rfl cellsD_own rfl rfl (q_last (q_store rfl rfl rfl rfl rfl rfl ⟨rfl, rfl, by simp, by simp [setAt, isCell_own, isCell_sl, isCell_int, isCell_nils], by simp [isOne]⟩ rfl trivial (rg_nil ?_))))))
        refine VS_bd (Bd.frzF 3 1 0 0 3 1 (xs := dI (g.ks ++ [100])) (by decide) rfl (toPVs_dI _) rfl rfl rfl ?_)
        refine VS_seq (VS_r0 rfl (q_load_ra rfl rfl rfl rfl rfl (by (simp [setAt]; done)) rfl (q_callp (x := .bool false) ((c_impl_FitsPage ⟨g.ks ++ [100], g.cs, g.vs⟩ ⟨by simp; omega, hgc, hgv⟩).to (y := .bool false) (by rw [fits_hundred rfl])) rfl trivial (q_not rfl (q_mv rfl (q_t rfl (q_fld_r rfl (q_t rfl (q_load_r rfl rfl rfl rfl rfl rfl rfl (q_t rfl (q_len_m rfl (q_t rfl (q_eql rfl rfl (q_t rfl (q_mv rfl ?_)))))))))))))))
        refine q_b rfl (fun g44 => ?_) (fun g44 => ?_)
        · try simp at g44
          refine q_t rfl (q_fld_r rfl (q_t rfl (q_load_r rfl rfl rfl rfl rfl rfl rfl (q_t rfl (q_fld_r rfl (q_t rfl (q_load_r rfl rfl rfl rfl rfl rfl rfl (q_t rfl (q_build rfl (q_t rfl (q_callp ((c_impl_ValidInner g.ks g.cs (by omega) (by omega)).to (y := .bool true) (by rw [fits_good hf (by (intro e; simp_all; done))])) rfl trivial (q_t rfl (q_pick_f rfl rfl (q_pick_t rfl rfl (q_mv rfl ?_)))))))))))))))
          refine rg_nil (VS_ret ?_)
          exact Bd.now ⟨_, rfl, rfl⟩
        · try simp at g44
          refine q_f rfl (q_f rfl (q_f rfl (q_f rfl (q_f rfl (q_f rfl (q_t rfl (q_pick_t rfl rfl (q_pick_t rfl rfl (q_mv rfl (rg_nil (VS_ret ?_)))))))))))
          exact Bd.now ⟨_, rfl, rfl⟩
theorem sl_laws_FnFitsPageEmpty : slimF prog 13 = some (55, (.seq (.reg 0 (.o 2 (.mv (.c (.pv (.bool false)))) .nil)) (.seq (.seq (.reg 0 (.o 6 (.mv (.t 0)) (.o 7 (.len (.t 6)) (.o 8 (.bin .gtr (.t 7) (.c (.pv (.int .i64 1048576)))) .nil)))) (.cond (.t 8) (.seq (.reg 0 (.o 2 (.mv (.c (.pv (.bool true)))) .nil)) .ret) .skip)) (.seq (.reg 0 (.o 9 (.mv (.t 0)) (.o 10 (.call 38 [.t 9]) (.o 3 (.alloc 30 3 (.agg [.nils, .nils, .nils])) (.op ⟨none, none, .store 3 (.t 3) (.t 10)⟩ .nil))))) (.seq (.reg 0 (.o 11 (.load 3 true (.t 3)) (.o 12 (.call 39 [.t 11]) (.o 4 (.mv (.t 12)) .nil)))) (.seq (.seq (.reg 0 (.o 13 (.mv (.t 4)) (.o 14 (.load 3 true (.t 3)) (.o 15 (.call 40 [.t 14]) (.o 16 (.beq true (.t 13) (.t 15)) (.o 17 (.mv (.t 16)) (.g 18 17 false (.mv (.t 4)) (.g 19 17 false (.not (.t 18)) (.o 20 (.pick (.t 17) (.c (.pv (.bool true))) (.t 19)) (.o 21 (.mv (.t 20)) (.g 22 21 false (.fld 1 1 false (.t 3)) (.g 23 21 false (.load 1 false (.t 22)) (.g 24 21 false (.len (.t 23)) (.g 25 21 false (.bin .gtr (.t 24) (.c (.pv (.int .i64 0)))) (.o 26 (.pick (.t 21) (.c (.pv (.bool true))) (.t 25)) (.o 27 (.mv (.t 26)) (.g 28 27 false (.fld 0 1 false (.t 3)) (.g 29 27 false (.load 1 false (.t 28)) (.g 30 27 false (.len (.t 29)) (.g 31 27 false (.bin .eql (.t 30) (.c (.pv (.int .i64 0)))) (.o 32 (.pick (.t 27) (.c (.pv (.bool true))) (.t 31)) .nil))))))))))))))))))))) (.cond (.t 32) (.seq (.reg 0 (.o 33 (.mv (.t 4)) (.o 34 (.load 3 true (.t 3)) (.o 35 (.call 40 [.t 34]) (.o 36 (.beq false (.t 33) (.t 35)) (.o 2 (.mv (.t 36)) .nil)))))) .ret) .skip)) (.seq (.reg 0 (.o 37 (.fld 0 1 false (.t 3)) (.o 38 (.load 1 false (.t 37)) (.o 39 (.len (.t 38)) (.o 40 (.bin .sub (.t 39) (.c (.pv (.int .i64 1)))) (.o 5 (.mv (.t 40)) .nil)))))) (.seq (.reg 2 (.o 41 (.build [.nils, .nils, .nils] []) (.o 42 (.call 39 [.t 41]) (.o 43 (.mv (.t 42)) (.g 44 43 true (.fld 0 1 false (.t 3)) (.g 45 43 true (.load 1 false (.t 44)) (.g 46 43 true (.mv (.t 5)) (.g 47 43 true (.slc 1 (.t 45) none (some (.t 46))) (.g 48 43 true (.fld 2 1 false (.t 3)) (.g 49 43 true (.load 1 false (.t 48)) (.g 50 43 true (.mv (.t 5)) (.g 51 43 true (.slc 1 (.t 49) none (some (.t 50))) (.g 52 43 true (.build [.nils, .nils, .nils] [(0, (1, .t 47)), (2, (1, .t 51))]) (.g 53 43 true (.call 39 [.t 52]) (.o 54 (.pick (.t 43) (.t 53) (.c (.pv (.bool false)))) (.o 2 (.mv (.t 54)) .nil)))))))))))))))) .ret)))))), [.t 2])) := by kernel_rfl
theorem c_laws_FnFitsPageEmpty (bs : List Int) (hb : isU8 bs) : PCon prog 13 [u8s bs] (fun p => p = .bool true) := by
  refine con_of_VS sl_laws_FnFitsPageEmpty (by simp) (VS_seq (VS_r0 rfl (q_mv rfl (rg_nil (VS_seq (VS_seq (VS_r0 rfl (q_mv rfl (q_len_m rfl (q_gtr rfl rfl (rg_nil ?_)))))))))))
  refine VS_cond rfl (fun c0 => ?_) (fun c0 => ?_)
  · try simp at c0
    refine VS_seq (VS_r0 rfl (q_mv rfl (rg_nil (VS_ret ?_))))
    exact Bd.now ⟨_, rfl, rfl⟩
  · try simp at c0
    refine VS_skip (VS_seq (VS_r0 rfl (q_mv rfl (q_calle rfl (c_spec_DrawFitsPage bs hb (by omega)) rfl trivial ?_))))
    rintro _ ⟨g, rfl, hg⟩
    refine q_alloc trivial (q_store rfl rfl rfl rfl rfl rfl ⟨rfl, rfl, by simp, rfl, by simp [isOne]⟩ rfl trivial (rg_nil (VS_seq ?_)))
    cases hf : fitsG g
    · skip
      have hgk := hg.1
      have hgc := hg.2.1
      have hgv := hg.2.2
      refine VS_r0 rfl (q_load_ra rfl rfl rfl rfl rfl (by (simp [setAt]; done)) rfl (q_callp (x := .bool false) ((c_impl_FitsPage g hg).to (y := .bool false) (by rw [hf])) rfl trivial (q_mv rfl (rg_nil (VS_seq (VS_seq (VS_r0 rfl (q_mv rfl (q_load_ra rfl rfl rfl rfl rfl (by (simp [setAt]; done)) rfl (q_callp (x := .bool false) ((c_spec_FitsPage g hg).to (y := .bool false) (by rw [hf])) rfl trivial (q_beq_v false rfl rfl (rfl) (q_mv rfl (q_t rfl (q_mv rfl (q_t rfl ?_)))))))))))))))
      refine q_not rfl (q_pick_f rfl rfl (q_mv rfl (q_f rfl (q_f rfl (q_f rfl (q_f rfl (q_pick_t rfl rfl (q_mv rfl (q_f rfl (q_f rfl (q_f rfl (q_f rfl (q_pick_t rfl rfl (rg_nil ?_))))))))))))))
      refine VS_cond rfl (fun _ => ?_) (fun e => by cases e)
      refine VS_seq (VS_r0 rfl (q_mv rfl (q_load_ra rfl rfl rfl rfl rfl (by (simp [setAt]; done)) rfl (q_callp (x := .bool false) ((c_spec_FitsPage g hg).to (y := .bool false) (by rw [hf])) rfl trivial (q_beq_v true rfl rfl (rfl) (q_mv rfl (rg_nil (VS_ret ?_))))))))
      exact Bd.now ⟨_, rfl, rfl⟩
    · skip
      have hgk := hg.1
      have hgc := hg.2.1
      have hgv := hg.2.2
      have h4 := fits_four hf
      refine VS_r0 rfl (q_load_ra rfl rfl rfl rfl rfl (by (simp [setAt]; done)) rfl (q_callp (x := .bool true) ((c_impl_FitsPage g hg).to (y := .bool true) (by rw [hf])) rfl trivial (q_mv rfl (rg_nil (VS_seq (VS_seq (VS_r0 rfl (q_mv rfl (q_load_ra rfl rfl rfl rfl rfl (by (simp [setAt]; done)) rfl (q_callp (x := .bool true) ((c_spec_FitsPage g hg).to (y := .bool true) (by rw [hf])) rfl trivial (q_beq_v false rfl rfl (rfl) (q_mv rfl (q_t rfl (q_mv rfl (q_t rfl ?_)))))))))))))))
      refine q_not rfl (q_pick_f rfl rfl (q_mv rfl (q_t rfl (q_fld_r rfl (q_t rfl (q_load_r rfl rfl rfl rfl rfl rfl rfl (q_t rfl (q_len_m rfl (q_t rfl (q_gtr rfl rfl (q_pick_f rfl rfl (q_mv rfl ?_))))))))))))
      refine q_b rfl (fun g27 => ?_) (fun g27 => ?_)
      · try simp at g27
        refine q_t rfl (q_fld_r rfl (q_t rfl (q_load_r rfl rfl rfl rfl rfl rfl rfl (q_t rfl (q_len_m rfl (q_t rfl (q_eql rfl rfl (q_pick_f rfl rfl (rg_nil ?_)))))))))
        refine VS_cond rfl (fun c1 => ?_) (fun c1 => ?_)
        · try simp at c1
          refine VS_seq (VS_r0 rfl (q_mv rfl (q_load_ra rfl rfl rfl rfl rfl (by (simp [setAt]; done)) rfl (q_callp (x := .bool true) ((c_spec_FitsPage g hg).to (y := .bool true) (by rw [hf])) rfl trivial (q_beq_v true rfl rfl (rfl) (q_mv rfl (rg_nil (VS_ret ?_))))))))
          exact Bd.now ⟨_, rfl, rfl⟩
        · try simp at c1
          have hc0 : g.cs.length = 0 := by first | omega | (simp_all; done)
          have hk0 : 0 < g.ks.length := by first | omega | exact List.length_pos_iff.2 c1 | (simp_all; omega)
          have hvs := fits_vs hf hc0
          refine VS_skip (VS_seq (VS_r0 rfl (q_fld_r rfl (q_load_r rfl rfl rfl rfl rfl rfl rfl (q_len_m rfl (q_sub rfl rfl (inR64 (by omega)) (q_mv rfl (rg_nil (VS_seq (VS_r2 _ hmix (Sub.refl _) (q_build rfl (q_callp (x := .bool true) ((c_impl_FitsPage ⟨[], [], []⟩ ⟨by simp, by simp, by simp⟩).to (y := .bool true) (by rfl)) rfl (Sub.refl _) (q_mv rfl (q_t rfl (q_fld_r rfl ?_)))))))))))))))
          refine q_t rfl (q_load_r rfl rfl rfl rfl rfl rfl rfl (q_t rfl (q_mv rfl (q_t rfl (q_slc_m (xs := g.ks) (f := fun k => i64 k) 0 (g.ks.length - 1) rfl rfl rfl ⟨rfl, by omega, by omega, by omega⟩ (fun _ => rfl) (q_t rfl (q_fld_r rfl (q_t rfl (q_load_r rfl rfl rfl rfl rfl rfl rfl (q_t rfl (q_mv rfl (q_t rfl (q_slc_m (xs := g.vs) (f := fun k => i64 k) 0 (g.ks.length - 1) rfl rfl rfl ⟨rfl, by omega, by omega, by omega⟩ (fun _ => rfl) (q_t rfl (q_build rfl ?_)))))))))))))))
          refine q_t rfl (q_callp (x := .bool true) ((c_impl_FitsPage ⟨(g.ks.take (g.ks.length - 1)).drop 0, [], (g.vs.take (g.ks.length - 1)).drop 0⟩ ⟨by simp; omega, by simp, by simp; omega⟩).to (y := .bool true) (congrArg PV.bool (fits_last hf hc0))) rfl (Sub.refl _) (q_pick_t rfl rfl (q_mv rfl (rg_nil (VS_ret ?_)))))
          exact Bd.now ⟨_, rfl, rfl⟩
      · try simp at g27
        refine q_f rfl (q_f rfl (q_f rfl (q_f rfl (q_pick_t rfl rfl (rg_nil ?_)))))
        refine VS_cond rfl (fun _ => ?_) (fun e => by cases e)
        refine VS_seq (VS_r0 rfl (q_mv rfl (q_load_ra rfl rfl rfl rfl rfl (by (simp [setAt]; done)) rfl (q_callp (x := .bool true) ((c_spec_FitsPage g hg).to (y := .bool true) (by rw [hf])) rfl trivial (q_beq_v true rfl rfl (rfl) (q_mv rfl (rg_nil (VS_ret ?_))))))))
        exact Bd.now ⟨_, rfl, rfl⟩
end Go.V
