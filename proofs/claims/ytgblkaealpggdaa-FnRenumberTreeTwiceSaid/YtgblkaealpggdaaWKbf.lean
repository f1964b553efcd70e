/- A part of the proofs about laws of the page tree (see the text that bears the law): a small language of steps, its rules, and what the functions of the program return. -/
import Derived.Test.YtgblkaealpggdaaWKbe
set_option linter.all false
set_option linter.unusedVariables false
set_option linter.unusedSimpArgs false
set_option maxHeartbeats 4000000
namespace Go.V
open Go.Proofs.Try (prog)
theorem zbf (os : List Nat) : ∀ i, i < 0 → os[i]? = some i := fun i hi => absurd hi (Nat.not_lt_zero i)
set_option maxRecDepth 100000
theorem sl_spec_PutKey : slimF prog 78 = some (26, (.seq (.reg 0 (.o 2 (.box 39 2 (.t 0)) (.o 3 (.box 81 2 (.t 1)) (.o 4 (.alloc 39 2 (.agg [.pv (.int .i64 0), .nils])) (.o 5 (.mv (.c (.pv (.bool false)))) .nil))))) (.seq (.seq (.reg 0 (.o 6 (.load 2 true (.t 2)) (.o 7 (.call 49 [.t 6]) (.o 8 (.not (.t 7)) (.o 9 (.mv (.t 8)) (.g 10 9 false (.load 2 true (.t 3)) (.g 11 9 false (.lit 81 2 1 [.pv (.int .i64 0), .pv (.int .i64 0)] [(0, .t 10)]) (.g 12 9 false (.call 63 [.t 11]) (.g 13 9 false (.not (.t 12)) (.o 14 (.pick (.t 9) (.c (.pv (.bool true))) (.t 13)) (.o 15 (.mv (.t 14)) (.g 16 15 false (.load 2 true (.t 2)) (.g 17 15 false (.load 2 true (.t 3)) (.g 18 15 false (.call 97 [.t 16, .t 17]) (.g 19 15 false (.call 49 [.t 18]) (.g 20 15 false (.not (.t 19)) (.o 21 (.pick (.t 15) (.c (.pv (.bool true))) (.t 20)) .nil))))))))))))))))) (.cond (.t 21) (.seq (.reg 0 (.o 22 (.build [.pv (.int .i64 0), .nils] []) (.op ⟨none, none, .store 2 (.t 4) (.t 22)⟩ (.o 5 (.mv (.c (.pv (.bool false)))) .nil)))) .ret) .skip)) (.seq (.reg 0 (.o 23 (.load 2 true (.t 2)) (.o 24 (.load 2 true (.t 3)) (.o 25 (.call 97 [.t 23, .t 24]) (.op ⟨none, none, .store 2 (.t 4) (.t 25)⟩ (.o 5 (.mv (.c (.pv (.bool true)))) .nil)))))) .ret)), [.c 4 2, .t 5])) := by kernel_rfl
theorem c_spec_PutKey_no (t : Pt) (x : Int × Int) (hs : smallT t) (hno : okPutT t x = false) : PCon prog 78 [ptP t, pairP x] (fun p => p = .tup [ptP ⟨0, []⟩, .bool false]) := by
 refine con_of_VS sl_spec_PutKey (by simp) (VS_seq (VS_r0 rfl (q_box rfl rfl rfl trivial (q_box rfl rfl rfl trivial (q_alloc trivial (q_mv rfl (rg_nil (VS_seq (VS_seq (VS_r0 rfl (q_load_ra rfl rfl rfl rfl rfl (by (simp; done)) rfl (q_callp (c_spec_validTree t hs) rfl trivial (q_not rfl (q_mv rfl ?_))))))))))))))
 refine q_b rfl (fun g9 => ?_) (fun g9 => ?_)
 ·try simp at g9
  have hv : validT t = true := by simpa using g9
  refine q_t rfl (q_load_ra rfl rfl rfl rfl rfl (by (simp; done)) rfl (q_t rfl (q_lit (xs := [pairP x]) rfl rfl rfl rfl (q_t rfl (q_callp ((c_spec_validRow [x] (by simp)).to (y := .bool (goodX x)) (by rw [goodR_one])) rfl trivial (q_t rfl (q_not rfl (q_pick_f rfl rfl (q_mv rfl ?_)))))))))
  refine q_b rfl (fun g15 => ?_) (fun g15 => ?_)
  ·try simp at g15
   have hx : goodX x = true := by simpa using g15
   have hsm := (putM_small hv hx).1
   refine q_t rfl (q_load_ra rfl rfl rfl rfl rfl (by (simp; done)) rfl (q_t rfl (q_load_ra rfl rfl rfl rfl rfl (by (simp; done)) rfl (q_t rfl ?_))))
   refine q_newTs rfl (show NewT prog 97 25 [ptP t, pairP x] (putM t x) from c_spec_putTree t x hv hx) (by repeat (first | exact trivial | refine ⟨.inl rfl, ?_⟩ | refine ⟨.inr ⟨_, rfl, rfl⟩, ?_⟩)) trivial ?_
   refine q_t rfl ?_
   refine q_calll rfl (c_spec_validTree (putM t x) hsm) (by (repeat' (first | exact toRs_nil | refine toRs_cons ?_ ?_ | rfl | exact toR_I rfl | exact toR_P rfl | exact toR_G rfl | refine toR_agg2 ?_ ?_ | refine toR_agg3 ?_ ?_ ?_))) rfl trivial ?_
   refine q_t rfl (q_not rfl (q_pick_f rfl rfl (rg_nil ?_)))
   refine VS_cond rfl (fun c0 => ?_) (fun c0 => ?_)
   ·try simp at c0
    refine VS_seq (VS_r0 rfl (q_build rfl (q_store rfl rfl rfl rfl rfl rfl ⟨rfl, rfl, by simp, rfl, by simp [isOne]⟩ rfl trivial (q_mv rfl (rg_nil (VS_ret ?_))))))
    exact Bd.now ⟨_, rfl, rfl⟩
   ·exfalso; have hc : okPutT t x = true := okPutT_iff.2 ⟨hv, hx, by simpa using c0⟩; rw [hno] at hc; cases hc
  ·try simp at g15
   refine q_f rfl (q_f rfl (q_f rfl (q_f rfl (q_f rfl (q_pick_t rfl rfl (rg_nil ?_))))))
   refine VS_cond rfl (fun _ => ?_) (fun e => by cases e)
   refine VS_seq (VS_r0 rfl (q_build rfl (q_store rfl rfl rfl rfl rfl rfl ⟨rfl, rfl, by simp, rfl, by simp [isOne]⟩ rfl trivial (q_mv rfl (rg_nil (VS_ret ?_))))))
   exact Bd.now ⟨_, rfl, rfl⟩
 ·try simp at g9
  refine q_f rfl (q_f rfl (q_f rfl (q_f rfl (q_pick_t rfl rfl (q_mv rfl (q_f rfl (q_f rfl (q_f rfl (q_f rfl (q_f rfl (q_pick_t rfl rfl (rg_nil ?_))))))))))))
  refine VS_cond rfl (fun _ => ?_) (fun e => by cases e)
  refine VS_seq (VS_r0 rfl (q_build rfl (q_store rfl rfl rfl rfl rfl rfl ⟨rfl, rfl, by simp, rfl, by simp [isOne]⟩ rfl trivial (q_mv rfl (rg_nil (VS_ret ?_))))))
  exact Bd.now ⟨_, rfl, rfl⟩
theorem c_spec_PutKey_ok (t : Pt) (x : Int × Int) (hs : smallT t) (hok : okPutT t x = true) : CallS prog 78 [.pv (ptP t), .pv (pairP x)] [] (fun d S => ∃ T, d = .tup [treeD 0 (putM t x), .pv (.bool true)] ∧ S = obD 25 3 (dG (putM t x).ps) :: T) := by
 have hok2 := okPutT_iff.1 hok
 have hv := hok2.1
 have hx := hok2.2.1
 have hvp := hok2.2.2
 have hsm := (putM_small hv hx).1
 refine callS_of_VS sl_spec_PutKey (by simp) (VS_seq (VS_r0 rfl (q_box rfl rfl rfl trivial (q_box rfl rfl rfl trivial (q_alloc trivial (q_mv rfl (rg_nil (VS_seq (VS_seq (VS_r0 rfl (q_load_ra rfl rfl rfl rfl rfl (by (simp; done)) rfl (q_callp (x := .bool true) ((c_spec_validTree t hs).to (y := .bool true) (by rw [hv])) rfl trivial (q_not rfl (q_mv rfl (q_t rfl ?_)))))))))))))))
 refine q_load_ra rfl rfl rfl rfl rfl (by (simp; done)) rfl (q_t rfl (q_lit (xs := [pairP x]) rfl rfl rfl rfl (q_t rfl (q_callp (x := .bool true) ((c_spec_validRow [x] (by simp)).to (y := .bool true) (by rw [goodR_one, hx])) rfl trivial (q_t rfl (q_not rfl (q_pick_f rfl rfl (q_mv rfl (q_t rfl (q_load_ra rfl rfl rfl rfl rfl (by (simp; done)) rfl (q_t rfl (q_load_ra rfl rfl rfl rfl rfl (by (simp; done)) rfl (q_t rfl ?_)))))))))))))
 refine q_newTs rfl (show NewT prog 97 25 [ptP t, pairP x] (putM t x) from c_spec_putTree t x hv hx) (by repeat (first | exact trivial | refine ⟨.inl rfl, ?_⟩ | refine ⟨.inr ⟨_, rfl, rfl⟩, ?_⟩)) trivial ?_
 refine q_t rfl ?_
 refine q_calll (x := .bool true) rfl ((c_spec_validTree (putM t x) hsm).to (y := .bool true) (by rw [hvp])) (by (repeat' (first | exact toRs_nil | refine toRs_cons ?_ ?_ | rfl | exact toR_I rfl | exact toR_P rfl | exact toR_G rfl | refine toR_agg2 ?_ ?_ | refine toR_agg3 ?_ ?_ ?_))) rfl trivial ?_
 refine q_t rfl (q_not rfl (q_pick_f rfl rfl (rg_nil ?_)))
 refine VS_cond rfl (fun e => by cases e) (fun _ => ?_)
 refine VS_skip (VS_seq (VS_r0 rfl (q_load_ra rfl rfl rfl rfl rfl (by (simp; done)) rfl (q_load_ra rfl rfl rfl rfl rfl (by (simp; done)) rfl ?_))))
 refine q_newTs rfl (show NewT prog 97 25 [ptP t, pairP x] (putM t x) from c_spec_putTree t x hv hx) (by repeat (first | exact trivial | refine ⟨.inl rfl, ?_⟩ | refine ⟨.inr ⟨_, rfl, rfl⟩, ?_⟩)) trivial ?_
 refine q_store rfl rfl rfl rfl rfl rfl ⟨rfl, rfl, by simp, by simp [setAt, isCell_own, isCell_sl, isCell_int, isCell_nils], by simp [isOne]⟩ rfl trivial (q_mv rfl (rg_nil (VS_ret ?_)))
 refine Bd.renL (S' := [obD 25 3 (dG (putM t x).ps), some ⟨39, 2, [.agg [.pv (i64 (putM t x).r), ownD 0 (dG (putM t x).ps)]]⟩]) [4, 2] (zbf _) (by simp) [(4, .ptr 1 0 0), (5, .pv (.bool true))] ⟨rfl, rfl, trivial⟩ (l2 (obD_mG _) (congrArg (fun z => some (⟨39, 2, [.agg [.pv (i64 (putM t x).r), z]]⟩ : Ob)) (mp1_own rfl))) ?_
 exact ⟨_, rfl, _, rfl, rfl⟩
end Go.V
