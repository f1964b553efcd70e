/- A part of the proofs about laws of the page tree (see the text that bears the law): a small language of steps, its rules, and what the functions of the program return. -/
import Derived.Test.YtnnmedfjjkmbaaaWKk
import Derived.Test.YtnnmedfjjkmbaaaPR
set_option linter.all false
set_option linter.unusedVariables false
set_option linter.unusedSimpArgs false
set_option maxHeartbeats 4000000
namespace Go.V
open Go.Proofs.Try (prog)
theorem c_spec_DrawDropPair (bs : List Int) (hb : isU8 bs) (hl : bs.length ≤ 1048576) : PCon prog 26 [u8s bs] (fun p => ∃ (xs : List (Int × Int)) (k : Int), p = .tup [prs xs, i64 k] ∧ (xs.length ≤ 25 ∧ bdP 2000 xs) ∧ -1000000001 ≤ k ∧ k ≤ 1000000001) := by
  refine con_of_VS sl_spec_DrawDropPair (by simp) ?_
  refine VS_seq ?_
  refine VS_r0 rfl ?_
  refine q_mv rfl ?_
  refine q_mv rfl ?_
  refine rg_nil ?_
  refine VS_seq ?_
  refine VS_r0 rfl ?_
  refine q_mv rfl ?_
  refine q_newRd rfl (c_spec_newReader _ hb hl) rfl (fun _ => (by first | exact trivial | exact Sub.nil | exact Sub.refl _ | exact Sub.app _ _ | exact SubL.sub (by repeat (first | exact SubL.nil | apply SubL.none | apply SubL.some | apply SubL.sh | apply SubL.eq)) | (refine Sub.of_eq ?_; intro o ob h; rcases o with _ | _ | _ | _ | _ | o <;> simp_all))) ?_
  rintro bs ⟨hb, hbl⟩
  refine q_mv rfl ?_
  refine rg_nil ?_
  refine VS_seq ?_
  refine VS_r0 rfl ?_
  refine q_mv rfl ?_
  refine q_rdn rfl (c_spec_anyRow bs hb hbl _ (by omega) (by omega)) (fun _ _ => rfl) rfl rfl (fun _ _ => (by first | exact trivial | exact Sub.nil | exact Sub.set (Sub.refl _) _ _ (by simp) | exact SubL.sub (by repeat (first | exact SubL.nil | apply SubL.none | apply SubL.some | apply SubL.sh | apply SubL.eq)) | (refine Sub.of_eq ?_; intro o ob h; rcases o with _ | _ | _ | _ | o <;> simp_all))) ?_
  rintro xs q9 ⟨⟨hx1, hx2⟩, hq1, hq2⟩
  refine q_mv rfl ?_
  refine rg_nil ?_
  refine VS_bd (Bd.pure 5 1 25 2 (xs := dP xs) rfl rfl (toPVs_dP _) ?_)
  refine VS_seq ?_
  refine VS_r0 rfl ?_
  refine q_mv rfl ?_
  refine q_mv rfl ?_
  refine q_mv rfl ?_
  refine q_callp (c_spec_keysOf xs (by omega)) rfl (by first | exact trivial | exact Sub.nil | exact Sub.refl _ | exact Sub.app _ _ | exact SubL.sub (by repeat (first | exact SubL.nil | apply SubL.none | apply SubL.some | apply SubL.sh | apply SubL.eq)) | (refine Sub.of_eq ?_; intro o ob h; rcases o with _ | _ | _ | _ | _ | o <;> simp_all)) ?_
  refine q_rd rfl (c_spec_keyNear bs hb hbl _ (by omega) (keysR xs) (by simp; omega) (hx2.keys.le (by omega)) (by omega)) rfl rfl (fun _ => (by first | exact trivial | exact Sub.nil | exact Sub.set (Sub.refl _) _ _ (by simp) | exact SubL.sub (by repeat (first | exact SubL.nil | apply SubL.none | apply SubL.some | apply SubL.sh | apply SubL.eq)) | (refine Sub.of_eq ?_; intro o ob h; rcases o with _ | _ | _ | _ | o <;> simp_all))) ?_
  rintro _ q14 ⟨k, rfl, q_k, ⟨hq3, hq4⟩⟩
  refine q_mv rfl ?_
  refine q_mv rfl ?_
  refine rg_nil ?_
  refine VS_ret ?_
  exact Bd.now ⟨_, rfl, xs, k, rfl, ⟨hx1, hx2⟩, q_k⟩
end Go.V
