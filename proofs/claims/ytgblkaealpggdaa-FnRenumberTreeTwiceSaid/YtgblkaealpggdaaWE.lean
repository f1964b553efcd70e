/- A part of the proofs about laws of the page tree (see the text that bears the law): a small language of steps, its rules, and what the functions of the program return. -/
import Derived.Test.YtgblkaealpggdaaWD
import Derived.Test.YtgblkaealpggdaaLE
import Derived.Test.YtgblkaealpggdaaWA
import Derived.Test.YtgblkaealpggdaaWB
set_option linter.all false
set_option linter.unusedVariables false
set_option linter.unusedSimpArgs false
set_option maxHeartbeats 4000000
namespace Go.V
open Go.Proofs.Try (prog)
set_option maxRecDepth 100000
end Go.V

set_option maxHeartbeats 4000000
namespace Go.V
open Go.Proofs.Try (prog)
set_option maxRecDepth 100000
theorem sl_spec_DropPair : slimF prog 110 = some (30, (.seq (.reg 0 (.o 4 (.mv (.c .nils)) (.o 5 (.mv (.c (.pv (.bool false)))) .nil))) (.seq (.seq (.reg 0 (.o 7 (.mv (.t 0)) (.o 8 (.call 63 [.t 7]) (.o 9 (.not (.t 8)) (.o 10 (.mv (.t 9)) (.g 11 10 false (.mv (.t 0)) (.g 12 10 false (.call 79 [.t 11]) (.g 13 10 false (.mv (.t 1)) (.g 14 10 false (.call 87 [.t 12, .t 13]) (.g 15 10 false (.not (.t 14)) (.o 16 (.pick (.t 10) (.c (.pv (.bool true))) (.t 15)) .nil))))))))))) (.cond (.t 16) (.seq (.reg 0 (.o 4 (.mv (.c .nils)) (.o 5 (.mv (.c (.pv (.bool false)))) .nil))) .ret) .skip)) (.seq (.reg 0 (.o 17 (.mv (.t 0)) (.o 18 (.call 79 [.t 17]) (.o 19 (.mv (.t 1)) (.o 20 (.call 103 [.t 18, .t 19]) (.o 6 (.mv (.t 20)) .nil)))))) (.seq (.reg 2 (.o 21 (.mv (.t 0)) (.o 22 (.mv (.t 6)) (.o 23 (.slc 2 (.t 21) none (some (.t 22))) (.o 25 (.mv (.t 0)) (.o 26 (.mv (.t 6)) (.o 27 (.bin .add (.t 26) (.c (.pv (.int .i64 1)))) (.o 28 (.slc 2 (.t 25) (some (.t 27)) none) (.o 24 (.call 104 [.t 23]) (.o 29 (.app 81 2 16 (.t 24) (.t 28)) (.o 4 (.mv (.t 29)) (.o 5 (.mv (.c (.pv (.bool true)))) .nil)))))))))))) .ret))), [.t 4, .t 5])) := by kernel_rfl
theorem c_spec_DropPair (xs : List (Int × Int)) (k : Int) (hl : xs.length ≤ 1000000) : PCon prog 110 [prs xs, i64 k] (fun p => p = .tup [prs (if okDrop xs k then dropR xs k else []), .bool (okDrop xs k)]) := by
 refine con_of_VS sl_spec_DropPair (by simp) (VS_seq (VS_r0 rfl (q_mv rfl (q_mv rfl (rg_nil (VS_seq (VS_seq (VS_r0 rfl (q_mv rfl (q_callp (c_spec_validRow _ (by omega)) rfl trivial (q_not rfl (q_mv rfl ?_))))))))))))
 refine q_b rfl (fun g10 => ?_) (fun g10 => ?_)
 ·try simp at g10
  refine q_t rfl (q_mv rfl (q_t rfl (q_callp (c_spec_keysOf _ (by omega)) rfl trivial (q_t rfl (q_mv rfl (q_t rfl (q_callp (c_spec_isIn (keysR xs) k (by simp; omega)) rfl trivial (q_t rfl (q_not rfl (q_pick_f rfl rfl (rg_nil ?_)))))))))))
  refine VS_cond rfl (fun c0 => ?_) (fun c0 => ?_)
  ·try simp at c0
   refine VS_seq (VS_r0 rfl (q_mv rfl (q_mv rfl (rg_nil (VS_ret ?_)))))
   have ho : okDrop xs k = false := Bool.eq_false_iff.2 fun h => by rw [okDrop_iff] at h; have h3 := h.2; rw [← there_contains (goodR_keys h.1)] at h3; simp_all
   exact Bd.now ⟨_, rfl, by rw [ho]; rfl⟩
  ·try simp at c0
   have l0 : goodR xs = true := by simp_all
   have ht : thereR xs k = true := by rw [← there_contains (goodR_keys l0)]; simp_all
   have hlt := (thereR_lt ht).1
   refine VS_skip (VS_seq (VS_r0 rfl (q_mv rfl (q_callp (c_spec_keysOf _ (by omega)) rfl trivial (q_mv rfl (q_callp ((c_spec_below (keysR xs) k (by simp; omega)).to (y := i64 (atR xs k)) rfl) rfl trivial (q_mv rfl (rg_nil (VS_seq (VS_r2 [] hmix Sub.nil (q_mv rfl (q_mv rfl (q_slc_m (xs := xs) (f := pairP) 0 (atR xs k) rfl rfl rfl ⟨rfl, rfl, by omega, by omega⟩ (fun _ => rfl) (q_mv rfl (q_mv rfl ?_)))))))))))))))
   refine q_add rfl rfl (inR64 (by omega)) (q_slc_m (xs := xs) (f := pairP) (atR xs k + 1) xs.length rfl rfl rfl ⟨rfl, by simp, by omega, by omega⟩ (fun _ => rfl) (q_new rfl (c_spec_copyRow ((xs.take (atR xs k)).drop 0) (by simp; omega)) (flat_P _) (by rfl) Sub.nil (q_app_dm (xs := (xs.take (atR xs k)).drop 0) (ys := (xs.take xs.length).drop (atR xs k + 1)) (f := fun k => .pv (pairP k)) rfl (elems_P _) (cell_P _) rfl ⟨by simp; omega, by simp; omega⟩ Sub.nil (q_mv rfl (q_mv rfl (rg_nil (VS_ret ?_)))))))
   have ho : okDrop xs k = true := okDrop_iff.2 ⟨l0, ht⟩
   refine Bd.pureB 4 1 81 2 (xs := dP ((xs.take (atR xs k)).drop 0 ++ (xs.take xs.length).drop (atR xs k + 1))) rfl rfl (toPVs_dP _) ?_
   exact Bd.now ⟨_, rfl, by rw [ho]; simp [dropR]⟩
 ·try simp at g10
  refine q_f rfl (q_f rfl (q_f rfl (q_f rfl (q_f rfl (q_pick_t rfl rfl (rg_nil ?_))))))
  refine VS_cond rfl (fun _ => ?_) (fun e => by cases e)
  refine VS_seq (VS_r0 rfl (q_mv rfl (q_mv rfl (rg_nil (VS_ret ?_)))))
  have ho : okDrop xs k = false := Bool.eq_false_iff.2 fun h => by rw [okDrop_iff] at h; have h3 := h.2; rw [← there_contains (goodR_keys h.1)] at h3; simp_all
  exact Bd.now ⟨_, rfl, by rw [ho]; rfl⟩
end Go.V

set_option maxHeartbeats 4000000
namespace Go.V
open Go.Proofs.Try (prog)
set_option maxRecDepth 100000
theorem sl_spec_addKid : slimF prog 109 = some (42, (.seq (.reg 0 (.o 4 (.box 88 2 (.t 0)) (.o 8 (.alloc 88 2 (.agg [.nils, .nils])) .nil))) (.seq (.reg 0 (.o 11 (.fld 0 1 false (.t 4)) (.o 12 (.load 1 false (.t 11)) (.o 13 (.mv (.t 1)) (.o 14 (.slc 1 (.t 12) none (some (.t 13))) (.o 15 (.call 83 [.t 14]) (.o 16 (.mv (.t 2)) (.o 17 (.lit 3 1 1 [.pv (.int .i64 0)] [(0, .t 16)]) (.o 18 (.app 3 1 8 (.t 15) (.t 17)) (.o 9 (.mv (.t 18)) .nil)))))))))) (.seq (.reg 0 (.o 19 (.fld 1 1 false (.t 4)) (.o 20 (.load 1 false (.t 19)) (.o 21 (.mv (.t 1)) (.o 22 (.bin .add (.t 21) (.c (.pv (.int .i64 1)))) (.o 23 (.slc 1 (.t 20) none (some (.t 22))) (.o 24 (.call 83 [.t 23]) (.o 25 (.mv (.t 3)) (.o 26 (.lit 3 1 1 [.pv (.int .i64 0)] [(0, .t 25)]) (.o 27 (.app 3 1 8 (.t 24) (.t 26)) (.o 10 (.mv (.t 27)) .nil))))))))))) (.seq (.reg 2 (.o 28 (.mv (.t 9)) (.o 29 (.fld 0 1 false (.t 4)) (.o 30 (.load 1 false (.t 29)) (.o 31 (.mv (.t 1)) (.o 32 (.slc 1 (.t 30) (some (.t 31)) none) (.o 34 (.mv (.t 10)) (.o 35 (.fld 1 1 false (.t 4)) (.o 36 (.load 1 false (.t 35)) (.o 37 (.mv (.t 1)) (.o 38 (.bin .add (.t 37) (.c (.pv (.int .i64 1)))) (.o 39 (.slc 1 (.t 36) (some (.t 38)) none) (.o 33 (.app 3 1 8 (.t 28) (.t 32)) (.o 40 (.app 3 1 8 (.t 34) (.t 39)) (.o 41 (.build [.nils, .nils] [(0, (1, .t 33)), (1, (1, .t 40))]) (.last ⟨none, none, .store 2 (.t 8) (.t 41)⟩)))))))))))))))) .ret))), [.c 8 2])) := by kernel_rfl
theorem c_spec_addKid (ks cs : List Int) (m : Nat) (k c : Int) (hk : ks.length ≤ 1000000) (hc : cs.length ≤ 1000000) (hm : m ≤ 1000000) (h1 : m ≤ ks.length) (h2 : cs.length = ks.length + 1) : PCon prog 109 [innP ks cs, i64 m, i64 k, i64 c] (fun p => p = innP (addA ks m k) (addB cs m c)) := by
 refine con_of_VS sl_spec_addKid (by simp) (VS_seq (VS_r0 rfl (q_box rfl rfl rfl trivial (q_alloc trivial (rg_nil (VS_seq (VS_r0 rfl (q_fld_r rfl (q_load_r rfl rfl rfl rfl rfl rfl rfl (q_mv rfl (q_slc_m (xs := ks) (f := fun k => i64 k) 0 m rfl rfl rfl ⟨rfl, by omega, by omega, by omega⟩ (fun _ => rfl) (q_new rfl (c_spec_copyInts ((ks.take m).drop 0) (by simp; omega)) (flat_I _) (by rfl) trivial (q_mv rfl (q_lit (xs := [i64 k]) rfl rfl rfl rfl (q_app_dm (xs := (ks.take m).drop 0) (ys := [k]) (f := fun k => .pv (i64 k)) rfl rfl rfl rfl ⟨by simp; omega, by simp; omega⟩ trivial ?_)))))))))))))))
 refine q_mv rfl (rg_nil (VS_seq (VS_r0 rfl (q_fld_r rfl (q_load_r rfl rfl rfl rfl rfl rfl rfl (q_mv rfl (q_add rfl rfl (inR64 (by omega)) (q_slc_m (xs := cs) (f := fun k => i64 k) 0 (m + 1) rfl rfl rfl ⟨rfl, by omega, by omega, by omega⟩ (fun _ => rfl) (q_new rfl (c_spec_copyInts ((cs.take (m + 1)).drop 0) (by simp; omega)) (flat_I _) (by rfl) trivial (q_mv rfl (q_lit (xs := [i64 c]) rfl rfl rfl rfl (q_app_dm (xs := (cs.take (m + 1)).drop 0) (ys := [c]) (f := fun k => .pv (i64 k)) rfl rfl rfl rfl ⟨by simp; omega, by simp; omega⟩ trivial (q_mv rfl (rg_nil (VS_seq ?_)))))))))))))))
 refine VS_st [some ⟨88, 2, [.pv (innP ks cs)]⟩, some ⟨88, 2, [.agg [.nils, .nils]]⟩, none, obD 3 1 (dI ((ks.take m).drop 0 ++ [k])), none, obD 3 1 (dI ((cs.take (m + 1)).drop 0 ++ [c]))] rfl (VS_r2 [some ⟨88, 2, [.pv (innP ks cs)]⟩] hmix (SubL.sub (by repeat constructor)) (q_mv rfl (q_fld_r rfl (q_load_r rfl rfl rfl rfl rfl rfl rfl (q_mv rfl (q_slc_m (xs := ks) (f := fun k => i64 k) m ks.length rfl rfl rfl ⟨rfl, by simp, by omega, by omega⟩ (fun _ => rfl) (q_mv rfl (q_fld_r rfl (q_load_r rfl rfl rfl rfl rfl rfl rfl (q_mv rfl (q_add rfl rfl (inR64 (by omega)) (q_slc_m (xs := cs) (f := fun k => i64 k) (m + 1) cs.length rfl rfl rfl ⟨rfl, by simp, by omega, by omega⟩ (fun _ => rfl) (q_app_dm (xs := (ks.take m).drop 0 ++ [k]) (ys := (ks.take ks.length).drop m) (f := fun k => .pv (i64 k)) rfl (elems_I _) (cell_I _) rfl ⟨by simp; omega, by simp; omega⟩ (Sub.app _ _) (q_app_dm (xs := (cs.take (m + 1)).drop 0 ++ [c]) (ys := (cs.take cs.length).drop (m + 1)) (f := fun k => .pv (i64 k)) rfl (elems_I _) (cell_I _) rfl ⟨by simp; omega, by simp; omega⟩ (Sub.app _ _) (q_build2 (d := ownD 6 (dI ((ks.take m).drop 0 ++ [k] ++ (ks.take ks.length).drop m))) (e := ownD 7 (dI ((cs.take (m + 1)).drop 0 ++ [c] ++ (cs.take cs.length).drop (m + 1)))) rfl cellsD_own rfl cellsD_own ?_)))))))))))))))
 refine q_last (q_store rfl rfl rfl rfl rfl rfl ⟨rfl, rfl, by simp, by simp [setAt, isCell_own, isCell_sl, isCell_int, isCell_nils], by simp [isOne]⟩ rfl trivial (rg_nil ?_))
 refine VS_bd (Bd.frzF 6 1 0 0 3 1 (xs := dI ((ks.take m).drop 0 ++ [k] ++ (ks.take ks.length).drop m)) (by decide) rfl (toPVs_dI _) rfl rfl rfl ?_)
 refine VS_bd (Bd.frzF 7 1 0 1 3 1 (xs := dI ((cs.take (m + 1)).drop 0 ++ [c] ++ (cs.take cs.length).drop (m + 1))) (by decide) rfl (toPVs_dI _) rfl rfl rfl ?_)
 refine VS_ret ?_
 refine Bd.now ⟨_, rfl, ?_⟩
 simp
end Go.V

set_option maxHeartbeats 4000000
namespace Go.V
open Go.Proofs.Try (prog)
set_option maxRecDepth 100000
end Go.V
