/- A part of the proofs about laws of the page tree (see the text that bears the law): a small language of steps, its rules, and what the functions of the program return. -/
import Derived.Test.YtgblkaealpggdaaWC
import Derived.Test.YtgblkaealpggdaaWA
import Derived.Test.YtgblkaealpggdaaLE
import Derived.Test.YtgblkaealpggdaaWB
set_option linter.all false
set_option linter.unusedVariables false
set_option linter.unusedSimpArgs false
set_option maxHeartbeats 4000000
namespace Go.V
open Go.Proofs.Try (prog)
set_option maxRecDepth 100000
theorem c_slices_Clone_int_p (xs : List Int) (hl : xs.length ≤ 1000000000) : PCon prog 39 [ints xs] (fun p => p = ints xs) := by
 refine con_of_VS sl_slices_Clone_int (by simp) (VS_seq (VS_r0 rfl (q_mv rfl (rg_nil (VS_seq (VS_seq (VS_r0 rfl (q_mv rfl ?_))))))))
 refine q_isnil_m rfl trivial ?_ ?_
 ·skip
  refine rg_nil ?_
  refine VS_cond rfl (fun e => by cases e) (fun _ => ?_)
  refine VS_skip (VS_seq (VS_r0 rfl (q_lit0 (q_mv rfl (q_app_zm (ys := xs) (f := fun k => .pv (i64 k)) rfl (elems_I xs) (cell_I xs) ⟨by omega, by omega⟩ trivial (q_mv rfl (rg_nil (VS_ret (Bd.pureB 2 0 3 1 (xs := dI xs) rfl rfl (toPVs_dI _) ?_)))))))))
  exact Bd.now ⟨_, rfl, rfl⟩
 ·intro hn
  rw [List.map_eq_nil_iff] at hn
  subst hn
  refine rg_nil ?_
  refine VS_cond rfl (fun _ => ?_) (fun e => by cases e)
  refine VS_seq (VS_r0 rfl (q_mv rfl (rg_nil (VS_ret ?_))))
  exact Bd.now ⟨_, rfl, rfl⟩
theorem c_spec_copyInts_p (xs : List Int) (hl : xs.length ≤ 1000000000) : PCon prog 83 [ints xs] (fun p => p = ints xs) := by
 refine con_of_VS sl_spec_copyInts (by simp) (VS_seq (VS_r0 rfl (q_mv rfl (rg_nil (VS_seq (VS_r0 rfl (q_lit0 (q_mv rfl (q_app_zm (ys := xs) (f := fun k => .pv (i64 k)) rfl (elems_I xs) (cell_I xs) ⟨by omega, by omega⟩ trivial (q_mv rfl (rg_nil (VS_ret (Bd.pureB 2 0 3 1 (xs := dI xs) rfl rfl (toPVs_dI _) ?_)))))))))))))
 exact Bd.now ⟨_, rfl, rfl⟩
theorem sl_spec_splitInner : slimF prog 108 = some (44, (.seq (.reg 0 (.o 1 (.box 88 2 (.t 0)) (.o 2 (.alloc 88 2 (.agg [.nils, .nils])) (.o 3 (.mv (.c (.pv (.int .i64 0)))) (.o 4 (.alloc 88 2 (.agg [.nils, .nils])) .nil))))) (.seq (.reg 0 (.o 8 (.fld 0 1 false (.t 1)) (.o 9 (.load 1 false (.t 8)) (.o 10 (.len (.t 9)) (.o 11 (.bin .quo (.t 10) (.c (.pv (.int .i64 2)))) (.o 5 (.mv (.t 11)) .nil)))))) (.seq (.reg 3 (.o 12 (.fld 0 1 false (.t 1)) (.o 13 (.load 1 false (.t 12)) (.o 14 (.mv (.t 5)) (.o 15 (.slc 1 (.t 13) none (some (.t 14))) (.o 16 (.call 83 [.t 15]) (.o 17 (.fld 1 1 false (.t 1)) (.o 18 (.load 1 false (.t 17)) (.o 19 (.mv (.t 5)) (.o 20 (.bin .add (.t 19) (.c (.pv (.int .i64 1)))) (.o 21 (.slc 1 (.t 18) none (some (.t 20))) (.o 22 (.call 83 [.t 21]) (.o 23 (.build [.nils, .nils] [(0, (1, .t 16)), (1, (1, .t 22))]) (.o 6 (.alloc 88 2 (.agg [.nils, .nils])) (.last ⟨none, none, .store 2 (.t 6) (.t 23)⟩))))))))))))))) (.seq (.reg 3 (.o 24 (.fld 0 1 false (.t 1)) (.o 25 (.load 1 false (.t 24)) (.o 26 (.mv (.t 5)) (.o 27 (.bin .add (.t 26) (.c (.pv (.int .i64 1)))) (.o 28 (.slc 1 (.t 25) (some (.t 27)) none) (.o 29 (.call 83 [.t 28]) (.o 30 (.fld 1 1 false (.t 1)) (.o 31 (.load 1 false (.t 30)) (.o 32 (.mv (.t 5)) (.o 33 (.bin .add (.t 32) (.c (.pv (.int .i64 1)))) (.o 34 (.slc 1 (.t 31) (some (.t 33)) none) (.o 35 (.call 83 [.t 34]) (.o 36 (.build [.nils, .nils] [(0, (1, .t 29)), (1, (1, .t 35))]) (.o 7 (.alloc 88 2 (.agg [.nils, .nils])) (.last ⟨none, none, .store 2 (.t 7) (.t 36)⟩)))))))))))))))) (.seq (.reg 2 (.o 37 (.load 2 true (.t 6)) (.o 38 (.fld 0 1 false (.t 1)) (.o 39 (.load 1 false (.t 38)) (.o 40 (.mv (.t 5)) (.o 41 (.idx 1 (.t 39) (.t 40)) (.o 42 (.load 1 false (.t 41)) (.o 43 (.load 2 true (.t 7)) (.op ⟨none, none, .store 2 (.t 2) (.t 37)⟩ (.o 3 (.mv (.t 42)) (.last ⟨none, none, .store 2 (.t 4) (.t 43)⟩))))))))))) .ret)))), [.c 2 2, .t 3, .c 4 2])) := by kernel_rfl
theorem c_spec_splitInner (ks cs : List Int) (h0 : 1 ≤ ks.length) (h2 : cs.length = ks.length + 1) (hk : ks.length ≤ 100000000) : PCon prog 108 [innP ks cs] (fun p => p = .tup [innP (ks.take (halfI ks)) (cs.take (halfI ks + 1)), i64 (nth ks (halfI ks)), innP (ks.drop (halfI ks + 1)) (cs.drop (halfI ks + 1))]) := by
 refine con_of_VS sl_spec_splitInner (by simp) (VS_seq (VS_r0 rfl (q_box rfl rfl rfl trivial (q_alloc trivial (q_mv rfl (q_alloc trivial (rg_nil (VS_seq ?_))))))))
 have hh : halfI ks = ks.length / 2 := rfl
 refine VS_r0 rfl (q_fld_r rfl (q_load_r rfl rfl rfl rfl rfl rfl rfl (q_len_m rfl (q_quo_to ((halfI ks : Nat) : Int) rfl rfl ⟨by omega, by omega⟩ (by omega) (inR64 (by omega)) (q_mv rfl (rg_nil (VS_seq (VS_r3 [some ⟨88, 2, [.pv (innP ks cs)]⟩] hmix (SubL.sub (by repeat constructor)) (q_fld_r rfl (q_load_r rfl rfl rfl rfl rfl rfl rfl (q_mv rfl (q_slc_m (xs := ks) (f := fun k => i64 k) 0 (halfI ks) rfl rfl rfl ⟨rfl, rfl, by omega, by omega⟩ (fun _ => rfl) (q_callp (c_spec_copyInts_p ((ks.take (halfI ks)).drop 0) (by simp; omega)) rfl (Sub.app _ _) (q_fld_r rfl (q_load_r rfl rfl rfl rfl rfl rfl rfl ?_)))))))))))))))
 refine q_mv rfl (q_add rfl rfl (inR64 (by omega)) (q_slc_m (xs := cs) (f := fun k => i64 k) 0 (halfI ks + 1) rfl rfl rfl ⟨rfl, rfl, by omega, by omega⟩ (fun _ => rfl) (q_callp (c_spec_copyInts_p ((cs.take (halfI ks + 1)).drop 0) (by simp; omega)) rfl (Sub.app _ _) (q_build rfl (q_alloc (Sub.app _ _) (q_last (q_store rfl rfl rfl rfl rfl rfl ⟨rfl, rfl, by simp, rfl, by simp [isOne]⟩ rfl trivial (rg_nil (VS_seq (VS_r3 [some ⟨88, 2, [.pv (innP ks cs)]⟩] hmix (SubL.sub (by repeat constructor)) (q_fld_r rfl (q_load_r rfl rfl rfl rfl rfl rfl rfl (q_mv rfl (q_add rfl rfl (inR64 (by omega)) (q_slc_m (xs := ks) (f := fun k => i64 k) (halfI ks + 1) ks.length rfl rfl rfl ⟨rfl, by simp, by omega, by omega⟩ (fun _ => rfl) ?_)))))))))))))))
 refine q_callp (c_spec_copyInts_p ((ks.take ks.length).drop (halfI ks + 1)) (by simp; omega)) rfl (Sub.app _ _) (q_fld_r rfl (q_load_r rfl rfl rfl rfl rfl rfl rfl (q_mv rfl (q_add rfl rfl (inR64 (by omega)) (q_slc_m (xs := cs) (f := fun k => i64 k) (halfI ks + 1) cs.length rfl rfl rfl ⟨rfl, by simp, by omega, by omega⟩ (fun _ => rfl) (q_callp (c_spec_copyInts_p ((cs.take cs.length).drop (halfI ks + 1)) (by simp; omega)) rfl (Sub.app _ _) (q_build rfl (q_alloc (Sub.app _ _) (q_last (q_store rfl rfl rfl rfl rfl rfl ⟨rfl, rfl, by simp, rfl, by simp [isOne]⟩ rfl trivial (rg_nil (VS_seq (VS_r2 [some ⟨88, 2, [.pv (innP ks cs)]⟩, none, none, some ⟨88, 2, [.agg [.pv (ints ((ks.take (halfI ks)).drop 0)), .pv (ints ((cs.take (halfI ks + 1)).drop 0))]]⟩, some ⟨88, 2, [.agg [.pv (ints ((ks.take ks.length).drop (halfI ks + 1))), .pv (ints ((cs.take cs.length).drop (halfI ks + 1)))]]⟩] hmix (SubL.sub (by repeat constructor)) (q_load_ra rfl rfl rfl rfl rfl (by (simp; done)) rfl (q_fld_r rfl ?_)))))))))))))))
 refine q_load_r rfl rfl rfl rfl rfl rfl rfl (q_mv rfl (q_idx_c _ rfl rfl (by omega) (fun _ => rfl) (q_load_c rfl rfl rfl (q_load_ra rfl rfl rfl rfl rfl (by (simp; done)) rfl (q_store rfl rfl rfl rfl rfl rfl ⟨rfl, rfl, by simp, rfl, by simp [isOne]⟩ rfl (SubL.sub (by repeat constructor)) (q_mv rfl (q_last (q_store rfl rfl rfl rfl rfl rfl ⟨rfl, rfl, by simp, rfl, by simp [isOne]⟩ rfl trivial (rg_nil (VS_ret ?_))))))))))
 refine Bd.now ⟨_, rfl, ?_⟩
 simp
end Go.V

set_option maxHeartbeats 4000000
namespace Go.V
open Go.Proofs.Try (prog)
set_option maxRecDepth 100000
end Go.V
