/- A part of the proofs about laws of the page tree (see the text that bears the law): a small language of steps, its rules, and what the functions of the program return. -/
import Derived.Test.YtjbihdcdamchnaaWKa
set_option linter.all false
set_option linter.unusedVariables false
set_option linter.unusedSimpArgs false
set_option maxHeartbeats 4000000
namespace Go.V
open Go.Proofs.Try (prog)
theorem c_spec_copyInts (xs : List Int) (hl : xs.length ≤ 1000000000) : NewS prog 61 3 1 [ints xs] (dI xs) := by
  refine callS_of_VS sl_spec_copyInts (by simp) ?_
  refine VS_seq ?_
  refine VS_r0 rfl ?_
  refine q_mv rfl ?_
  refine rg_nil ?_
  refine VS_seq ?_
  refine VS_r0 rfl ?_
  refine q_lit0 ?_
  refine q_mv rfl ?_
  refine q_app_zm (ys := xs) (f := fun k => .pv (i64 k)) rfl (elems_I xs) (cell_I xs) ⟨by omega, by omega⟩ (by first | exact trivial | exact Sub.nil | exact Sub.refl _ | exact Sub.app _ _ | exact SubL.sub (by repeat (first | exact SubL.nil | apply SubL.none | apply SubL.some | apply SubL.sh | apply SubL.eq)) | (refine Sub.of_eq ?_; intro o ob h; rcases o with _ | _ | _ | _ | _ | o <;> simp_all)) ?_
  refine q_mv rfl ?_
  refine rg_nil ?_
  refine VS_ret ?_
  exact Bd.now ⟨ownD 0 (dI xs), by cases xs <;> rfl, rfl, rfl⟩
theorem c_spec_reader_pick (bs : List Int) (hb : isU8 bs) (hbl : bs.length ≤ 2000) (p : Int) (hp : 0 ≤ p) (n : Int) (hp2 : p ≤ 1000000000000) (hn : n ≤ 1000000000000) : RdS prog 56 90 bs p [i64 n] (fun x q => ∃ v : Int, x = i64 v ∧ (0 ≤ v ∧ (v < n ∨ v = 0)) ∧ q = p + 1) := by
  refine callS_of_VS sl_spec_reader_pick (by simp) ?_
  refine VS_seq ?_
  refine VS_r0 rfl ?_
  refine q_mv rfl ?_
  refine rg_nil ?_
  refine VS_seq ?_
  refine VS_r0 rfl ?_
  refine q_mv rfl ?_
  refine q_mv rfl ?_
  first | refine q_nilc_r rfl ?_ | refine q_nilc_c rfl ?_
  first | refine q_fld_r rfl ?_ | refine q_fld_c rfl rfl ?_
  first | refine q_load_c rfl rfl rfl ?_ | refine q_load_r rfl rfl rfl rfl rfl rfl rfl ?_ | refine q_load_o rfl rfl rfl rfl rfl ?_
  refine q_add rfl rfl (inR64 (by omega)) ?_
  first | refine q_nilc_r rfl ?_ | refine q_nilc_c rfl ?_
  first | refine q_fld_r rfl ?_ | refine q_fld_c rfl rfl ?_
  refine q_store rfl rfl rfl rfl rfl rfl ⟨rfl, rfl, Nat.le_refl 2, rfl, by simp [isOne]⟩ rfl trivial ?_
  refine rg_nil ?_
  refine VS_st [some (rdr 90 bs (p + 1))] rfl ?_
  refine VS_seq ?_
  refine VS_seq ?_
  refine VS_r0 rfl ?_
  refine q_mv rfl ?_
  refine q_lss rfl rfl ?_
  refine q_mv rfl ?_
  refine q_b rfl (fun g17 => ?_) (fun g17 => ?_)
  · try simp at g17
    refine q_t rfl ?_
    refine q_mv rfl ?_
    refine q_t rfl ?_
    first | refine q_nilc_r rfl ?_ | refine q_nilc_c rfl ?_
    refine q_t rfl ?_
    first | refine q_fld_r rfl ?_ | refine q_fld_c rfl rfl ?_
    refine q_t rfl ?_
    first | refine q_load_c rfl rfl rfl ?_ | refine q_load_r rfl rfl rfl rfl rfl rfl rfl ?_ | refine q_load_o rfl rfl rfl rfl rfl ?_
    refine q_t rfl ?_
    first | refine q_len_m rfl ?_ | refine q_len_s rfl ?_ | refine q_len_o rfl ?_ | refine q_len_n rfl ?_ | refine q_len_x rfl ?_
    refine q_t rfl ?_
    refine q_eql rfl rfl ?_
    refine q_pick_f rfl rfl ?_
    refine rg_nil ?_
    refine VS_cond rfl (fun c0 => ?_) (fun c0 => ?_)
    · try simp at c0
      refine VS_seq ?_
      refine VS_r0 rfl ?_
      refine q_mv rfl ?_
      refine rg_nil ?_
      refine VS_ret ?_
      exact Bd.now ⟨_, rfl, _, _, _, rfl, ⟨0, rfl, ⟨Int.le_refl _, .inr rfl⟩, rfl⟩, rfl⟩
    · try simp at c0
      refine VS_skip ?_
      refine VS_seq ?_
      refine VS_r0 rfl ?_
      refine q_mv rfl ?_
      first | refine q_nilc_r rfl ?_ | refine q_nilc_c rfl ?_
      first | refine q_fld_r rfl ?_ | refine q_fld_c rfl rfl ?_
      first | refine q_load_c rfl rfl rfl ?_ | refine q_load_r rfl rfl rfl rfl rfl rfl rfl ?_ | refine q_load_o rfl rfl rfl rfl rfl ?_
      refine q_sub rfl rfl (inR64 (by omega)) ?_
      rw [show p + 1 - 1 = p by omega]
      refine q_mv rfl ?_
      refine rg_nil ?_
      refine VS_seq ?_
      refine VS_seq ?_
      refine VS_r0 rfl ?_
      refine q_mv rfl ?_
      refine q_mv rfl ?_
      first | refine q_nilc_r rfl ?_ | refine q_nilc_c rfl ?_
      first | refine q_fld_r rfl ?_ | refine q_fld_c rfl rfl ?_
      first | refine q_load_c rfl rfl rfl ?_ | refine q_load_r rfl rfl rfl rfl rfl rfl rfl ?_ | refine q_load_o rfl rfl rfl rfl rfl ?_
      first | refine q_len_m rfl ?_ | refine q_len_s rfl ?_ | refine q_len_o rfl ?_ | refine q_len_n rfl ?_ | refine q_len_x rfl ?_
      refine q_lss rfl rfl ?_
      refine rg_nil ?_
      refine VS_cond rfl (fun c1 => ?_) (fun c1 => ?_)
      · try simp at c1
        refine VS_seq ?_
        refine VS_r0 rfl ?_
        have q0 := hb.nth (i := p.toNat) (by omega)
        refine q_mv rfl ?_
        first | refine q_nilc_r rfl ?_ | refine q_nilc_c rfl ?_
        first | refine q_fld_r rfl ?_ | refine q_fld_c rfl rfl ?_
        first | refine q_load_c rfl rfl rfl ?_ | refine q_load_r rfl rfl rfl rfl rfl rfl rfl ?_ | refine q_load_o rfl rfl rfl rfl rfl ?_
        refine q_mv rfl ?_
        first | refine q_idx_c _ rfl rfl (by omega) (fun _ => rfl) ?_ | refine q_idx_m rfl rfl (by omega) (by omega) (fun _ => rfl) ?_ | refine q_idx_om rfl rfl (by omega) (by omega) rfl rfl ?_
        first | refine q_load_c rfl rfl rfl ?_ | refine q_load_r rfl rfl rfl rfl rfl rfl rfl ?_ | refine q_load_o rfl rfl rfl rfl rfl ?_
        refine q_conv rfl (inR64 (by omega)) ?_
        refine q_mv rfl ?_
        refine q_rem rfl rfl ⟨by omega, by omega⟩ ?_
        refine q_mv rfl ?_
        refine rg_nil ?_
        refine VS_ret ?_
        exact Bd.now ⟨_, rfl, _, _, _, rfl, ⟨_, rfl, ⟨Int.emod_nonneg _ (by omega), .inl (Int.emod_lt_of_pos _ (by omega))⟩, rfl⟩, rfl⟩
      · try simp at c1
        refine VS_skip ?_
        refine VS_seq ?_
        refine VS_r1 hmix rfl ?_
        have hpos : (0 : Int) < bs.length := by have := List.length_pos_iff.2 (show bs ≠ [] by assumption); omega
        have e1 := Int.emod_nonneg p (show (bs.length : Int) ≠ 0 by omega)
        have e2 := Int.emod_lt_of_pos p hpos
        have e3 := Int.emod_nonneg (p * 7 + 3) (show (bs.length : Int) ≠ 0 by omega)
        have e4 := Int.emod_lt_of_pos (p * 7 + 3) hpos
        have q1 := hb.nth (i := (p % bs.length).toNat) (by omega)
        have q2 := hb.nth (i := ((p * 7 + 3) % bs.length).toNat) (by omega)
        have e5 : 0 ≤ p / (bs.length : Int) := Int.ediv_nonneg hp (by omega)
        have e6 : p / (bs.length : Int) ≤ p := Int.ediv_le_self _ hp
        refine q_mv rfl ?_
        first | refine q_nilc_r rfl ?_ | refine q_nilc_c rfl ?_
        first | refine q_fld_r rfl ?_ | refine q_fld_c rfl rfl ?_
        first | refine q_load_c rfl rfl rfl ?_ | refine q_load_r rfl rfl rfl rfl rfl rfl rfl ?_ | refine q_load_o rfl rfl rfl rfl rfl ?_
        refine q_mv rfl ?_
        refine q_mv rfl ?_
        first | refine q_nilc_r rfl ?_ | refine q_nilc_c rfl ?_
        first | refine q_fld_r rfl ?_ | refine q_fld_c rfl rfl ?_
        first | refine q_load_c rfl rfl rfl ?_ | refine q_load_r rfl rfl rfl rfl rfl rfl rfl ?_ | refine q_load_o rfl rfl rfl rfl rfl ?_
        first | refine q_len_m rfl ?_ | refine q_len_s rfl ?_ | refine q_len_o rfl ?_ | refine q_len_n rfl ?_ | refine q_len_x rfl ?_
        refine q_rem rfl rfl ⟨by omega, by omega⟩ ?_
        first | refine q_idx_c _ rfl rfl (by omega) (fun _ => rfl) ?_ | refine q_idx_m rfl rfl (by omega) (by omega) (fun _ => rfl) ?_ | refine q_idx_om rfl rfl (by omega) (by omega) rfl rfl ?_
        first | refine q_load_c rfl rfl rfl ?_ | refine q_load_r rfl rfl rfl rfl rfl rfl rfl ?_ | refine q_load_o rfl rfl rfl rfl rfl ?_
        refine q_conv rfl (inR64 (by omega)) ?_
        refine q_mul rfl rfl (inR64 (by omega)) ?_
        refine q_mv rfl ?_
        first | refine q_nilc_r rfl ?_ | refine q_nilc_c rfl ?_
        first | refine q_fld_r rfl ?_ | refine q_fld_c rfl rfl ?_
        first | refine q_load_c rfl rfl rfl ?_ | refine q_load_r rfl rfl rfl rfl rfl rfl rfl ?_ | refine q_load_o rfl rfl rfl rfl rfl ?_
        refine q_mv rfl ?_
        refine q_mul rfl rfl (inR64 (by omega)) ?_
        refine q_add rfl rfl (inR64 (by omega)) ?_
        refine q_mv rfl ?_
        first | refine q_nilc_r rfl ?_ | refine q_nilc_c rfl ?_
        first | refine q_fld_r rfl ?_ | refine q_fld_c rfl rfl ?_
        first | refine q_load_c rfl rfl rfl ?_ | refine q_load_r rfl rfl rfl rfl rfl rfl rfl ?_ | refine q_load_o rfl rfl rfl rfl rfl ?_
        first | refine q_len_m rfl ?_ | refine q_len_s rfl ?_ | refine q_len_o rfl ?_ | refine q_len_n rfl ?_ | refine q_len_x rfl ?_
        refine q_rem rfl rfl ⟨by omega, by omega⟩ ?_
        first | refine q_idx_c _ rfl rfl (by omega) (fun _ => rfl) ?_ | refine q_idx_m rfl rfl (by omega) (by omega) (fun _ => rfl) ?_ | refine q_idx_om rfl rfl (by omega) (by omega) rfl rfl ?_
        first | refine q_load_c rfl rfl rfl ?_ | refine q_load_r rfl rfl rfl rfl rfl rfl rfl ?_ | refine q_load_o rfl rfl rfl rfl rfl ?_
        refine q_conv rfl (inR64 (by omega)) ?_
        refine q_mul rfl rfl (inR64 (by omega)) ?_
        refine q_add rfl rfl (inR64 (by omega)) ?_
        refine q_mv rfl ?_
        refine q_mul rfl rfl (inR64 (by omega)) ?_
        refine q_add rfl rfl (inR64 (by omega)) ?_
        refine q_mv rfl ?_
        refine q_mv rfl ?_
        first | refine q_nilc_r rfl ?_ | refine q_nilc_c rfl ?_
        first | refine q_fld_r rfl ?_ | refine q_fld_c rfl rfl ?_
        first | refine q_load_c rfl rfl rfl ?_ | refine q_load_r rfl rfl rfl rfl rfl rfl rfl ?_ | refine q_load_o rfl rfl rfl rfl rfl ?_
        first | refine q_len_m rfl ?_ | refine q_len_s rfl ?_ | refine q_len_o rfl ?_ | refine q_len_n rfl ?_ | refine q_len_x rfl ?_
        refine q_quo rfl rfl ⟨by omega, by omega, inR64 (by omega)⟩ ?_
        refine q_mul rfl rfl (inR64 (by omega)) ?_
        refine q_add rfl rfl (inR64 (by omega)) ?_
        refine q_mv rfl ?_
        refine rg_nil ?_
        refine VS_seq ?_
        refine VS_r0 rfl ?_
        refine q_mv rfl ?_
        refine q_mv rfl ?_
        refine q_quo rfl rfl ⟨by omega, by omega, inR64 (by omega)⟩ ?_
        refine q_xor rfl rfl ⟨by omega, by omega, (inR64 (by omega)).2, (inR64 (by omega)).2⟩ ?_
        refine q_mv rfl ?_
        refine rg_nil ?_
        refine VS_seq ?_
        refine VS_r0 rfl ?_
        refine q_mv rfl ?_
        refine q_mv rfl ?_
        refine q_rem rfl rfl ⟨by omega, by omega⟩ ?_
        refine q_mv rfl ?_
        refine rg_nil ?_
        refine VS_ret ?_
        exact Bd.now ⟨_, rfl, _, _, _, rfl, ⟨_, rfl, ⟨Int.emod_nonneg _ (by omega), .inl (Int.emod_lt_of_pos _ (by omega))⟩, rfl⟩, rfl⟩
  · try simp at g17
    refine q_f rfl ?_
    refine q_f rfl ?_
    refine q_f rfl ?_
    refine q_f rfl ?_
    refine q_f rfl ?_
    refine q_f rfl ?_
    refine q_pick_t rfl rfl ?_
    refine rg_nil ?_
    refine VS_cond rfl (fun _ => ?_) (fun e => by cases e)
    refine VS_seq ?_
    refine VS_r0 rfl ?_
    refine q_mv rfl ?_
    refine rg_nil ?_
    refine VS_ret ?_
    exact Bd.now ⟨_, rfl, _, _, _, rfl, ⟨0, rfl, ⟨Int.le_refl _, .inr rfl⟩, rfl⟩, rfl⟩
theorem c_spec_reader_one (bs : List Int) (hb : isU8 bs) (hbl : bs.length ≤ 2000) (p : Int) (hp : 0 ≤ p) (xs : List Int) (hx : 0 < xs.length) (hx2 : xs.length ≤ 1000000000) (hp2 : p ≤ 100000000000) : RdS prog 77 90 bs p [ints xs] (fun x q => ∃ v : Int, x = i64 v ∧ v ∈ xs ∧ q = p + 1) := by
  refine callS_of_VS sl_spec_reader_one (by simp) ?_
  refine VS_seq ?_
  refine VS_r0 rfl ?_
  refine q_mv rfl ?_
  refine rg_nil ?_
  refine VS_seq ?_
  refine VS_r0 rfl ?_
  refine q_mv rfl ?_
  refine q_mv rfl ?_
  refine q_mv rfl ?_
  first | refine q_len_m rfl ?_ | refine q_len_s rfl ?_ | refine q_len_o rfl ?_ | refine q_len_n rfl ?_ | refine q_len_x rfl ?_
  refine q_rd rfl (c_spec_reader_pick bs hb hbl _ (by omega) xs.length (by omega) (by omega)) rfl rfl (fun _ => (by first | exact trivial | exact Sub.nil | exact Sub.set (Sub.refl _) _ _ (by simp) | exact SubL.sub (by repeat (first | exact SubL.nil | apply SubL.none | apply SubL.some | apply SubL.sh | apply SubL.eq)) | (refine Sub.of_eq ?_; intro o ob h; rcases o with _ | _ | _ | _ | o <;> simp_all))) ?_
  rintro _ q9 ⟨v, rfl, q_v, rfl⟩
  first | refine q_idx_c _ rfl rfl (by omega) (fun _ => rfl) ?_ | refine q_idx_m rfl rfl (by omega) (by omega) (fun _ => rfl) ?_ | refine q_idx_om rfl rfl (by omega) (by omega) rfl rfl ?_
  first | refine q_load_c rfl rfl rfl ?_ | refine q_load_r rfl rfl rfl rfl rfl rfl rfl ?_ | refine q_load_o rfl rfl rfl rfl rfl ?_
  refine q_mv rfl ?_
  refine rg_nil ?_
  refine VS_ret ?_
  exact Bd.now ⟨_, rfl, _, _, _, rfl, ⟨_, rfl, nth_mem (by omega), rfl⟩, rfl⟩
theorem c_spec_newReader (bs : List Int) (hb : isU8 bs) (hl : bs.length ≤ 1048576) : NewRd prog 50 90 bs := by
  refine callS_of_VS sl_spec_newReader (by simp) ?_
  refine VS_seq ?_
  refine VS_r0 rfl ?_
  refine q_mv rfl ?_
  refine rg_nil ?_
  refine VS_seq ?_
  refine VS_seq ?_
  refine VS_r0 rfl ?_
  refine q_mv rfl ?_
  first | refine q_len_m rfl ?_ | refine q_len_s rfl ?_ | refine q_len_o rfl ?_ | refine q_len_n rfl ?_ | refine q_len_x rfl ?_
  refine q_gtr rfl rfl ?_
  refine rg_nil ?_
  refine VS_cond rfl (fun c0 => ?_) (fun c0 => ?_)
  · try simp at c0
    refine VS_r0 rfl ?_
    refine q_mv rfl ?_
    refine q_slc_m (xs := bs) (f := fun k => PV.int .u8 k) 0 2000 rfl rfl rfl ⟨rfl, rfl, by omega, by omega⟩ (fun _ => rfl) ?_
    refine q_mv rfl ?_
    refine rg_nil ?_
    refine VS_seq ?_
    refine VS_r0 rfl ?_
    refine q_mv rfl ?_
    refine q_build rfl ?_
    refine q_box rfl rfl rfl (by first | exact trivial | exact Sub.nil | exact Sub.refl _ | exact Sub.app _ _ | exact SubL.sub (by repeat (first | exact SubL.nil | apply SubL.none | apply SubL.some | apply SubL.sh | apply SubL.eq)) | (refine Sub.of_eq ?_; intro o ob h; rcases o with _ | _ | _ | _ | _ | o <;> simp_all)) ?_
    refine q_mv rfl ?_
    refine rg_nil ?_
    refine VS_ret ?_
    first | exact Bd.now ⟨.ptr 0 0 0, rfl, bs.take 2000, ⟨hb.take _, by simp; omega⟩, rfl, rfl⟩ | exact Bd.now ⟨.ptr 0 0 0, rfl, bs, ⟨hb, by omega⟩, rfl, rfl⟩
  · try simp at c0
    refine VS_skip ?_
    refine VS_seq ?_
    refine VS_r0 rfl ?_
    refine q_mv rfl ?_
    refine q_build rfl ?_
    refine q_box rfl rfl rfl (by first | exact trivial | exact Sub.nil | exact Sub.refl _ | exact Sub.app _ _ | exact SubL.sub (by repeat (first | exact SubL.nil | apply SubL.none | apply SubL.some | apply SubL.sh | apply SubL.eq)) | (refine Sub.of_eq ?_; intro o ob h; rcases o with _ | _ | _ | _ | _ | o <;> simp_all)) ?_
    refine q_mv rfl ?_
    refine rg_nil ?_
    refine VS_ret ?_
    first | exact Bd.now ⟨.ptr 0 0 0, rfl, bs.take 2000, ⟨hb.take _, by simp; omega⟩, rfl, rfl⟩ | exact Bd.now ⟨.ptr 0 0 0, rfl, bs, ⟨hb, by omega⟩, rfl, rfl⟩
theorem c_spec_keyNear (bs : List Int) (hb : isU8 bs) (hbl : bs.length ≤ 2000) (p : Int) (hp : 0 ≤ p) (ks : List Int) (hk : ks.length ≤ 1000000000) (hk2 : ∀ j, j < ks.length → -1000000000 ≤ nth ks j ∧ nth ks j ≤ 1000000000) (hp2 : p ≤ 90000000000) : RdS prog 62 90 bs p [ints ks] (fun x q => ∃ v : Int, x = i64 v ∧ (-1000000001 ≤ v ∧ v ≤ 1000000001) ∧ (p ≤ q ∧ q ≤ p + 4)) := by
  refine callS_of_VS sl_spec_keyNear (by simp) ?_
  refine VS_seq ?_
  refine VS_r0 rfl ?_
  refine q_mv rfl ?_
  refine rg_nil ?_
  refine VS_seq ?_
  refine VS_seq ?_
  refine VS_r0 rfl ?_
  refine q_mv rfl ?_
  first | refine q_len_m rfl ?_ | refine q_len_s rfl ?_ | refine q_len_o rfl ?_ | refine q_len_n rfl ?_ | refine q_len_x rfl ?_
  refine q_gtr rfl rfl ?_
  refine q_mv rfl ?_
  refine q_b rfl (fun g8 => ?_) (fun g8 => ?_)
  · try simp at g8
    refine q_t rfl ?_
    refine q_mv rfl ?_
    refine q_t rfl ?_
    refine q_rd rfl (c_spec_reader_pick bs hb hbl _ (by omega) 3 (by omega) (by omega)) rfl rfl (fun _ => (by first | exact trivial | exact Sub.nil | exact Sub.set (Sub.refl _) _ _ (by simp) | exact SubL.sub (by repeat (first | exact SubL.nil | apply SubL.none | apply SubL.some | apply SubL.sh | apply SubL.eq)) | (refine Sub.of_eq ?_; intro o ob h; rcases o with _ | _ | _ | _ | o <;> simp_all))) ?_
    rintro _ q10 ⟨a, rfl, q_a, rfl⟩
    refine q_t rfl ?_
    refine q_gtr rfl rfl ?_
    refine q_pick_t rfl rfl ?_
    refine rg_nil ?_
    refine VS_cond rfl (fun c0 => ?_) (fun c0 => ?_)
    · try simp at c0
      refine VS_seq ?_
      refine VS_r2 [] hmix Sub.nil ?_
      refine q_mv rfl ?_
      refine q_mv rfl ?_
      refine q_mv rfl ?_
      first | refine q_len_m rfl ?_ | refine q_len_s rfl ?_ | refine q_len_o rfl ?_ | refine q_len_n rfl ?_ | refine q_len_x rfl ?_
      refine q_mv rfl ?_
      refine q_lit (xs := [0, 0, 1, -1].map (.int .i64)) rfl rfl rfl rfl ?_
      refine q_rd rfl (c_spec_reader_pick bs hb hbl _ (by omega) ks.length (by omega) (by omega)) rfl rfl (fun _ => (by first | exact trivial | exact Sub.nil | exact Sub.set (Sub.refl _) _ _ (by simp) | exact SubL.sub (by repeat (first | exact SubL.nil | apply SubL.none | apply SubL.some | apply SubL.sh | apply SubL.eq)) | (refine Sub.of_eq ?_; intro o ob h; rcases o with _ | _ | _ | _ | o <;> simp_all))) ?_
      rintro _ q17 ⟨b, rfl, q_b, rfl⟩
      have hn := hk2 b.toNat (by omega)
      refine q_idx_m rfl rfl (by omega) (by omega) (fun _ => rfl) ?_
      first | refine q_load_c rfl rfl rfl ?_ | refine q_load_r rfl rfl rfl rfl rfl rfl rfl ?_ | refine q_load_o rfl rfl rfl rfl rfl ?_
      refine q_rd rfl (c_spec_reader_one bs hb hbl _ (by omega) [0, 0, 1, -1] (by simp) (by simp) (by omega)) rfl rfl (fun _ => (by first | exact trivial | exact Sub.nil | exact Sub.set (Sub.refl _) _ _ (by simp) | exact SubL.sub (by repeat (first | exact SubL.nil | apply SubL.none | apply SubL.some | apply SubL.sh | apply SubL.eq)) | (refine Sub.of_eq ?_; intro o ob h; rcases o with _ | _ | _ | _ | o <;> simp_all))) ?_
      rintro _ q22 ⟨c, rfl, q_c, rfl⟩
      simp only [List.mem_cons, List.not_mem_nil, or_false] at q_c
      refine q_add rfl rfl (inR64 (by omega)) ?_
      refine q_mv rfl ?_
      refine rg_nil ?_
      refine VS_ret ?_
      exact Bd.now ⟨_, rfl, _, _, _, rfl, ⟨_, rfl, ⟨by omega, by omega⟩, ⟨by omega, by omega⟩⟩, rfl⟩
    · try simp at c0
      refine VS_skip ?_
      refine VS_seq ?_
      refine VS_r0 rfl ?_
      refine q_mv rfl ?_
      refine q_mv rfl ?_
      refine q_rd rfl (c_spec_reader_pick bs hb hbl _ (by omega) 100 (by omega) (by omega)) rfl rfl (fun _ => (by first | exact trivial | exact Sub.nil | exact Sub.set (Sub.refl _) _ _ (by simp) | exact SubL.sub (by repeat (first | exact SubL.nil | apply SubL.none | apply SubL.some | apply SubL.sh | apply SubL.eq)) | (refine Sub.of_eq ?_; intro o ob h; rcases o with _ | _ | _ | _ | o <;> simp_all))) ?_
      rintro _ q26 ⟨e, rfl, q_e, rfl⟩
      refine q_mv rfl ?_
      refine q_rd rfl (c_spec_reader_pick bs hb hbl _ (by omega) 100 (by omega) (by omega)) rfl rfl (fun _ => (by first | exact trivial | exact Sub.nil | exact Sub.set (Sub.refl _) _ _ (by simp) | exact SubL.sub (by repeat (first | exact SubL.nil | apply SubL.none | apply SubL.some | apply SubL.sh | apply SubL.eq)) | (refine Sub.of_eq ?_; intro o ob h; rcases o with _ | _ | _ | _ | o <;> simp_all))) ?_
      rintro _ q28 ⟨f, rfl, q_f, rfl⟩
      refine q_lit (xs := [e, f, 0, 99, 100, -1].map (.int .i64)) rfl rfl rfl rfl ?_
      refine q_rd rfl (c_spec_reader_one bs hb hbl _ (by omega) [e, f, 0, 99, 100, -1] (by simp) (by simp) (by omega)) rfl rfl (fun _ => (by first | exact trivial | exact Sub.nil | exact Sub.set (Sub.refl _) _ _ (by simp) | exact SubL.sub (by repeat (first | exact SubL.nil | apply SubL.none | apply SubL.some | apply SubL.sh | apply SubL.eq)) | (refine Sub.of_eq ?_; intro o ob h; rcases o with _ | _ | _ | _ | o <;> simp_all))) ?_
      rintro _ q30 ⟨g, rfl, q_g, rfl⟩
      refine q_mv rfl ?_
      refine rg_nil ?_
      refine VS_ret ?_
      simp only [List.mem_cons, List.not_mem_nil, or_false] at q_g
      exact Bd.now ⟨_, rfl, _, _, _, rfl, ⟨_, rfl, ⟨by omega, by omega⟩, ⟨by omega, by omega⟩⟩, rfl⟩
  · try simp at g8
    refine q_f rfl ?_
    refine q_f rfl ?_
    refine q_f rfl ?_
    refine q_pick_f rfl rfl ?_
    refine rg_nil ?_
    refine VS_cond rfl (fun e => by cases e) (fun _ => ?_)
    refine VS_skip ?_
    refine VS_seq ?_
    refine VS_r0 rfl ?_
    refine q_mv rfl ?_
    refine q_mv rfl ?_
    refine q_rd rfl (c_spec_reader_pick bs hb hbl _ (by omega) 100 (by omega) (by omega)) rfl rfl (fun _ => (by first | exact trivial | exact Sub.nil | exact Sub.set (Sub.refl _) _ _ (by simp) | exact SubL.sub (by repeat (first | exact SubL.nil | apply SubL.none | apply SubL.some | apply SubL.sh | apply SubL.eq)) | (refine Sub.of_eq ?_; intro o ob h; rcases o with _ | _ | _ | _ | o <;> simp_all))) ?_
    rintro _ q26 ⟨e, rfl, q_e, rfl⟩
    refine q_mv rfl ?_
    refine q_rd rfl (c_spec_reader_pick bs hb hbl _ (by omega) 100 (by omega) (by omega)) rfl rfl (fun _ => (by first | exact trivial | exact Sub.nil | exact Sub.set (Sub.refl _) _ _ (by simp) | exact SubL.sub (by repeat (first | exact SubL.nil | apply SubL.none | apply SubL.some | apply SubL.sh | apply SubL.eq)) | (refine Sub.of_eq ?_; intro o ob h; rcases o with _ | _ | _ | _ | o <;> simp_all))) ?_
    rintro _ q28 ⟨f, rfl, q_f, rfl⟩
    refine q_lit (xs := [e, f, 0, 99, 100, -1].map (.int .i64)) rfl rfl rfl rfl ?_
    refine q_rd rfl (c_spec_reader_one bs hb hbl _ (by omega) [e, f, 0, 99, 100, -1] (by simp) (by simp) (by omega)) rfl rfl (fun _ => (by first | exact trivial | exact Sub.nil | exact Sub.set (Sub.refl _) _ _ (by simp) | exact SubL.sub (by repeat (first | exact SubL.nil | apply SubL.none | apply SubL.some | apply SubL.sh | apply SubL.eq)) | (refine Sub.of_eq ?_; intro o ob h; rcases o with _ | _ | _ | _ | o <;> simp_all))) ?_
    rintro _ q30 ⟨g, rfl, q_g, rfl⟩
    refine q_mv rfl ?_
    refine rg_nil ?_
    refine VS_ret ?_
    simp only [List.mem_cons, List.not_mem_nil, or_false] at q_g
    exact Bd.now ⟨_, rfl, _, _, _, rfl, ⟨_, rfl, ⟨by omega, by omega⟩, ⟨by omega, by omega⟩⟩, rfl⟩
theorem c_spec_reader_spoil (bs : List Int) (hb : isU8 bs) (hbl : bs.length ≤ 2000) (p : Int) (hp : 0 ≤ p) (xs : List Int) (n : Int) (hx : xs.length ≤ 1000000) (hx2 : bdI 1000000000 xs) (hn : -1000000000 ≤ n ∧ n ≤ 1000000000) (hp2 : p ≤ 90000000000) : RdS prog 85 90 bs p [ints xs, i64 n] (fun x q => ∃ ys : List Int, x = ints ys ∧ (ys.length ≤ xs.length + 1 ∧ bdI 1000000000 ys) ∧ (p ≤ q ∧ q ≤ p + 3)) := by
  refine callS_of_VS sl_spec_reader_spoil (by simp) ?_
  refine VS_seq ?_
  refine VS_r0 rfl ?_
  refine q_mv rfl ?_
  refine rg_nil ?_
  refine VS_seq ?_
  refine VS_r0 rfl ?_
  refine q_mv rfl ?_
  refine q_new rfl (c_spec_copyInts xs (by omega)) (flat_I _) (by first | rfl | (repeat' (first | exact toRs_nil | refine toRs_cons ?_ ?_ | rfl | exact toR_I rfl | exact toR_P rfl | refine toR_agg2 ?_ ?_ | refine toR_agg3 ?_ ?_ ?_))) (by first | exact trivial | exact Sub.nil | exact Sub.refl _ | exact Sub.app _ _ | exact SubL.sub (by repeat (first | exact SubL.nil | apply SubL.none | apply SubL.some | apply SubL.sh | apply SubL.eq)) | (refine Sub.of_eq ?_; intro o ob h; rcases o with _ | _ | _ | _ | _ | o <;> simp_all)) ?_
  refine q_mv rfl ?_
  refine rg_nil ?_
  refine VS_seq ?_
  refine VS_seq ?_
  refine VS_r0 rfl ?_
  refine q_mv rfl ?_
  refine q_rd rfl (c_spec_reader_pick bs hb hbl _ (by omega) 20 (by omega) (by omega)) rfl rfl (fun _ => (by first | exact trivial | exact Sub.nil | exact Sub.set (Sub.refl _) _ _ (by simp) | exact SubL.sub (by repeat (first | exact SubL.nil | apply SubL.none | apply SubL.some | apply SubL.sh | apply SubL.eq)) | (refine Sub.of_eq ?_; intro o ob h; rcases o with _ | _ | _ | _ | o <;> simp_all))) ?_
  rintro _ q11 ⟨a, rfl, q_a, rfl⟩
  refine rg_nil ?_
  refine VS_block ?_
  refine VS_seq ?_
  refine VS_r0 rfl ?_
  refine q_eql rfl rfl ?_
  refine q_mv rfl ?_
  refine rg_nil ?_
  refine VS_cond rfl (fun c0 => ?_) (fun c0 => ?_)
  · try simp at c0
    refine VS_r0 rfl ?_
    refine q_mv rfl ?_
    refine q_mv rfl ?_
    refine q_lit rfl rfl rfl rfl ?_
    refine q_app_dm (xs := xs) (ys := [n]) (f := fun k => .pv (i64 k)) rfl rfl rfl rfl ⟨by simp; omega, by simp; omega⟩ (by first | exact trivial | exact Sub.nil | exact Sub.refl _ | exact Sub.app _ _ | exact SubL.sub (by repeat (first | exact SubL.nil | apply SubL.none | apply SubL.some | apply SubL.sh | apply SubL.eq)) | (refine Sub.of_eq ?_; intro o ob h; rcases o with _ | _ | _ | _ | _ | o <;> simp_all)) ?_
    refine q_mv rfl ?_
    refine rg_nil ?_
    refine VS_seq ?_
    refine VS_r0 rfl ?_
    refine q_mv rfl ?_
    refine q_mv rfl ?_
    refine rg_nil ?_
    refine VS_ret ?_
    first
      | refine Bd.pureB 6 2 3 1 (xs := dI (xs ++ [n])) rfl rfl (toPVs_dI _) ?_
      | refine Bd.pureB 6 1 3 1 (xs := dI (xs.set b.toNat c)) (Eq.trans (b := ownD 1 (dI xs)) rfl (ownD_len (by simp))) rfl (toPVs_dI _) ?_
      | refine Bd.pureB 6 1 3 1 (xs := dI xs) rfl rfl (toPVs_dI _) ?_
      | skip
    first
      | refine Bd.renL [0] (fun i hi => by have e : i = 0 := (by simp at hi; omega); subst e; rfl) (by simp) [(6, .pv (ints (xs ++ [n])))] ⟨rfl, trivial⟩ rfl ?_
      | refine Bd.renL [0] (fun i hi => by have e : i = 0 := (by simp at hi; omega); subst e; rfl) (by simp) [(6, .pv (ints (xs.set b.toNat c)))] ⟨rfl, trivial⟩ rfl ?_
      | refine Bd.renL [0] (fun i hi => by have e : i = 0 := (by simp at hi; omega); subst e; rfl) (by simp) [(6, .pv (ints ((xs.take xs.length).drop 1)))] ⟨rfl, trivial⟩ rfl ?_
      | refine Bd.renL [0] (fun i hi => by have e : i = 0 := (by simp at hi; omega); subst e; rfl) (by simp) [(6, .pv (ints xs))] ⟨rfl, trivial⟩ rfl ?_
    refine ⟨_, rfl, _, _, _, rfl, ⟨_, rfl, ⟨?_, ?_⟩, ⟨by omega, by omega⟩⟩, rfl⟩
    · first | (simp; done) | (simp; omega)
    · first | exact hx2 | exact hx2.app (bdI.one hn) | exact (hx2.take _).drop _ | (simp only [List.mem_cons, List.not_mem_nil, or_false] at q_c; exact hx2.set _ (by omega))
  · try simp at c0
    refine VS_seq ?_
    refine VS_r0 rfl ?_
    refine q_eql rfl rfl ?_
    refine q_mv rfl ?_
    refine rg_nil ?_
    refine VS_cond rfl (fun c1 => ?_) (fun c1 => ?_)
    · try simp at c1
      refine VS_seq ?_
      refine VS_r0 rfl ?_
      refine q_mv rfl ?_
      refine q_len_dm rfl ?_
      first | refine q_gtr rfl rfl ?_ | skip
      refine rg_nil ?_
      refine VS_cond rfl (fun c2 => ?_) (fun c2 => ?_)
      · try simp at c2
        refine VS_bd (Bd.pure 7 1 3 1 (xs := dI xs) rfl rfl (toPVs_dI _) ?_)
        refine VS_r0 rfl ?_
        refine q_mv rfl ?_
        refine q_slc_m (xs := xs) (f := fun k => i64 k) 1 xs.length rfl rfl rfl ⟨rfl, by simp, by omega, by omega⟩ (fun _ => rfl) ?_
        refine q_mv rfl ?_
        refine rg_nil ?_
        refine VS_seq ?_
        refine VS_r0 rfl ?_
        refine q_mv rfl ?_
        refine q_mv rfl ?_
        refine rg_nil ?_
        refine VS_ret ?_
        first
          | refine Bd.pureB 6 2 3 1 (xs := dI (xs ++ [n])) rfl rfl (toPVs_dI _) ?_
          | refine Bd.pureB 6 1 3 1 (xs := dI (xs.set b.toNat c)) (Eq.trans (b := ownD 1 (dI xs)) rfl (ownD_len (by simp))) rfl (toPVs_dI _) ?_
          | refine Bd.pureB 6 1 3 1 (xs := dI xs) rfl rfl (toPVs_dI _) ?_
          | skip
        first
          | refine Bd.renL [0] (fun i hi => by have e : i = 0 := (by simp at hi; omega); subst e; rfl) (by simp) [(6, .pv (ints (xs ++ [n])))] ⟨rfl, trivial⟩ rfl ?_
          | refine Bd.renL [0] (fun i hi => by have e : i = 0 := (by simp at hi; omega); subst e; rfl) (by simp) [(6, .pv (ints (xs.set b.toNat c)))] ⟨rfl, trivial⟩ rfl ?_
          | refine Bd.renL [0] (fun i hi => by have e : i = 0 := (by simp at hi; omega); subst e; rfl) (by simp) [(6, .pv (ints ((xs.take xs.length).drop 1)))] ⟨rfl, trivial⟩ rfl ?_
          | refine Bd.renL [0] (fun i hi => by have e : i = 0 := (by simp at hi; omega); subst e; rfl) (by simp) [(6, .pv (ints xs))] ⟨rfl, trivial⟩ rfl ?_
        refine ⟨_, rfl, _, _, _, rfl, ⟨_, rfl, ⟨?_, ?_⟩, ⟨by omega, by omega⟩⟩, rfl⟩
        · first | (simp; done) | (simp; omega)
        · first | exact hx2 | exact hx2.app (bdI.one hn) | exact (hx2.take _).drop _ | (simp only [List.mem_cons, List.not_mem_nil, or_false] at q_c; exact hx2.set _ (by omega))
      · try simp at c2
        refine VS_skip ?_
        refine VS_seq ?_
        refine VS_r0 rfl ?_
        refine q_mv rfl ?_
        refine q_mv rfl ?_
        refine rg_nil ?_
        refine VS_ret ?_
        first
          | refine Bd.pureB 6 2 3 1 (xs := dI (xs ++ [n])) rfl rfl (toPVs_dI _) ?_
          | refine Bd.pureB 6 1 3 1 (xs := dI (xs.set b.toNat c)) (Eq.trans (b := ownD 1 (dI xs)) rfl (ownD_len (by simp))) rfl (toPVs_dI _) ?_
          | refine Bd.pureB 6 1 3 1 (xs := dI xs) rfl rfl (toPVs_dI _) ?_
          | skip
        first
          | refine Bd.renL [0] (fun i hi => by have e : i = 0 := (by simp at hi; omega); subst e; rfl) (by simp) [(6, .pv (ints (xs ++ [n])))] ⟨rfl, trivial⟩ rfl ?_
          | refine Bd.renL [0] (fun i hi => by have e : i = 0 := (by simp at hi; omega); subst e; rfl) (by simp) [(6, .pv (ints (xs.set b.toNat c)))] ⟨rfl, trivial⟩ rfl ?_
          | refine Bd.renL [0] (fun i hi => by have e : i = 0 := (by simp at hi; omega); subst e; rfl) (by simp) [(6, .pv (ints ((xs.take xs.length).drop 1)))] ⟨rfl, trivial⟩ rfl ?_
          | refine Bd.renL [0] (fun i hi => by have e : i = 0 := (by simp at hi; omega); subst e; rfl) (by simp) [(6, .pv (ints xs))] ⟨rfl, trivial⟩ rfl ?_
        refine ⟨_, rfl, _, _, _, rfl, ⟨_, rfl, ⟨?_, ?_⟩, ⟨by omega, by omega⟩⟩, rfl⟩
        · first | (simp; done) | (simp; omega)
        · first | exact hx2 | exact hx2.app (bdI.one hn) | exact (hx2.take _).drop _ | (simp only [List.mem_cons, List.not_mem_nil, or_false] at q_c; exact hx2.set _ (by omega))
    · try simp at c1
      refine VS_seq ?_
      refine VS_r0 rfl ?_
      refine q_eql rfl rfl ?_
      refine q_mv rfl ?_
      refine rg_nil ?_
      refine VS_cond rfl (fun c3 => ?_) (fun c3 => ?_)
      · try simp at c3
        refine VS_seq ?_
        refine VS_r0 rfl ?_
        refine q_mv rfl ?_
        refine q_len_dm rfl ?_
        refine q_gtr rfl rfl ?_
        refine rg_nil ?_
        refine VS_cond rfl (fun c4 => ?_) (fun c4 => ?_)
        · try simp at c4
          refine VS_r0 rfl ?_
          refine q_mv rfl ?_
          refine q_mv rfl ?_
          refine q_mv rfl ?_
          refine q_len_dm rfl ?_
          refine q_rd rfl (c_spec_reader_pick bs hb hbl _ (by omega) xs.length (by omega) (by omega)) rfl rfl (fun _ => (by first | exact trivial | exact Sub.nil | exact Sub.set (Sub.refl _) _ _ (by simp) | exact SubL.sub (by repeat (first | exact SubL.nil | apply SubL.none | apply SubL.some | apply SubL.sh | apply SubL.eq)) | (refine Sub.of_eq ?_; intro o ob h; rcases o with _ | _ | _ | _ | o <;> simp_all))) ?_
          rintro _ q34 ⟨b, rfl, q_b, rfl⟩
          refine q_mv rfl ?_
          refine q_mv rfl ?_
          refine q_lit (xs := [-1, n, 0, 1].map (.int .i64)) rfl rfl rfl rfl ?_
          refine q_rd rfl (c_spec_reader_one bs hb hbl _ (by omega) [-1, n, 0, 1] (by simp) (by simp) (by omega)) rfl rfl (fun _ => (by first | exact trivial | exact Sub.nil | exact Sub.set (Sub.refl _) _ _ (by simp) | exact SubL.sub (by repeat (first | exact SubL.nil | apply SubL.none | apply SubL.some | apply SubL.sh | apply SubL.eq)) | (refine Sub.of_eq ?_; intro o ob h; rcases o with _ | _ | _ | _ | o <;> simp_all))) ?_
          rintro _ q38 ⟨c, rfl, q_c, rfl⟩
          refine q_idx_dm (ty := 3) (xs := xs) rfl rfl (by omega) (by omega) rfl ?_
          refine q_store_d (ty := 3) (xs := xs) rfl rfl rfl (by omega) trivial ?_
          refine rg_nil ?_
          refine VS_seq ?_
          refine VS_r0 rfl ?_
          refine q_mv rfl ?_
          refine q_mv rfl ?_
          refine rg_nil ?_
          refine VS_ret ?_
          first
            | refine Bd.pureB 6 2 3 1 (xs := dI (xs ++ [n])) rfl rfl (toPVs_dI _) ?_
            | refine Bd.pureB 6 1 3 1 (xs := dI (xs.set b.toNat c)) (Eq.trans (b := ownD 1 (dI xs)) rfl (ownD_len (by simp))) rfl (toPVs_dI _) ?_
            | refine Bd.pureB 6 1 3 1 (xs := dI xs) rfl rfl (toPVs_dI _) ?_
            | skip
          first
            | refine Bd.renL [0] (fun i hi => by have e : i = 0 := (by simp at hi; omega); subst e; rfl) (by simp) [(6, .pv (ints (xs ++ [n])))] ⟨rfl, trivial⟩ rfl ?_
            | refine Bd.renL [0] (fun i hi => by have e : i = 0 := (by simp at hi; omega); subst e; rfl) (by simp) [(6, .pv (ints (xs.set b.toNat c)))] ⟨rfl, trivial⟩ rfl ?_
            | refine Bd.renL [0] (fun i hi => by have e : i = 0 := (by simp at hi; omega); subst e; rfl) (by simp) [(6, .pv (ints ((xs.take xs.length).drop 1)))] ⟨rfl, trivial⟩ rfl ?_
            | refine Bd.renL [0] (fun i hi => by have e : i = 0 := (by simp at hi; omega); subst e; rfl) (by simp) [(6, .pv (ints xs))] ⟨rfl, trivial⟩ rfl ?_
          refine ⟨_, rfl, _, _, _, rfl, ⟨_, rfl, ⟨?_, ?_⟩, ⟨by omega, by omega⟩⟩, rfl⟩
          · first | (simp; done) | (simp; omega)
          · first | exact hx2 | exact hx2.app (bdI.one hn) | exact (hx2.take _).drop _ | (simp only [List.mem_cons, List.not_mem_nil, or_false] at q_c; exact hx2.set _ (by omega))
        · try simp at c4
          refine VS_skip ?_
          refine VS_seq ?_
          refine VS_r0 rfl ?_
          refine q_mv rfl ?_
          refine q_mv rfl ?_
          refine rg_nil ?_
          refine VS_ret ?_
          first
            | refine Bd.pureB 6 2 3 1 (xs := dI (xs ++ [n])) rfl rfl (toPVs_dI _) ?_
            | refine Bd.pureB 6 1 3 1 (xs := dI (xs.set b.toNat c)) (Eq.trans (b := ownD 1 (dI xs)) rfl (ownD_len (by simp))) rfl (toPVs_dI _) ?_
            | refine Bd.pureB 6 1 3 1 (xs := dI xs) rfl rfl (toPVs_dI _) ?_
            | skip
          first
            | refine Bd.renL [0] (fun i hi => by have e : i = 0 := (by simp at hi; omega); subst e; rfl) (by simp) [(6, .pv (ints (xs ++ [n])))] ⟨rfl, trivial⟩ rfl ?_
            | refine Bd.renL [0] (fun i hi => by have e : i = 0 := (by simp at hi; omega); subst e; rfl) (by simp) [(6, .pv (ints (xs.set b.toNat c)))] ⟨rfl, trivial⟩ rfl ?_
            | refine Bd.renL [0] (fun i hi => by have e : i = 0 := (by simp at hi; omega); subst e; rfl) (by simp) [(6, .pv (ints ((xs.take xs.length).drop 1)))] ⟨rfl, trivial⟩ rfl ?_
            | refine Bd.renL [0] (fun i hi => by have e : i = 0 := (by simp at hi; omega); subst e; rfl) (by simp) [(6, .pv (ints xs))] ⟨rfl, trivial⟩ rfl ?_
          refine ⟨_, rfl, _, _, _, rfl, ⟨_, rfl, ⟨?_, ?_⟩, ⟨by omega, by omega⟩⟩, rfl⟩
          · first | (simp; done) | (simp; omega)
          · first | exact hx2 | exact hx2.app (bdI.one hn) | exact (hx2.take _).drop _ | (simp only [List.mem_cons, List.not_mem_nil, or_false] at q_c; exact hx2.set _ (by omega))
      · try simp at c3
        refine VS_skip ?_
        refine VS_seq ?_
        refine VS_r0 rfl ?_
        refine q_mv rfl ?_
        refine q_mv rfl ?_
        refine rg_nil ?_
        refine VS_ret ?_
        first
          | refine Bd.pureB 6 2 3 1 (xs := dI (xs ++ [n])) rfl rfl (toPVs_dI _) ?_
          | refine Bd.pureB 6 1 3 1 (xs := dI (xs.set b.toNat c)) (Eq.trans (b := ownD 1 (dI xs)) rfl (ownD_len (by simp))) rfl (toPVs_dI _) ?_
          | refine Bd.pureB 6 1 3 1 (xs := dI xs) rfl rfl (toPVs_dI _) ?_
          | skip
        first
          | refine Bd.renL [0] (fun i hi => by have e : i = 0 := (by simp at hi; omega); subst e; rfl) (by simp) [(6, .pv (ints (xs ++ [n])))] ⟨rfl, trivial⟩ rfl ?_
          | refine Bd.renL [0] (fun i hi => by have e : i = 0 := (by simp at hi; omega); subst e; rfl) (by simp) [(6, .pv (ints (xs.set b.toNat c)))] ⟨rfl, trivial⟩ rfl ?_
          | refine Bd.renL [0] (fun i hi => by have e : i = 0 := (by simp at hi; omega); subst e; rfl) (by simp) [(6, .pv (ints ((xs.take xs.length).drop 1)))] ⟨rfl, trivial⟩ rfl ?_
          | refine Bd.renL [0] (fun i hi => by have e : i = 0 := (by simp at hi; omega); subst e; rfl) (by simp) [(6, .pv (ints xs))] ⟨rfl, trivial⟩ rfl ?_
        refine ⟨_, rfl, _, _, _, rfl, ⟨_, rfl, ⟨?_, ?_⟩, ⟨by omega, by omega⟩⟩, rfl⟩
        · first | (simp; done) | (simp; omega)
        · first | exact hx2 | exact hx2.app (bdI.one hn) | exact (hx2.take _).drop _ | (simp only [List.mem_cons, List.not_mem_nil, or_false] at q_c; exact hx2.set _ (by omega))
theorem c_spec_someKeys (bs : List Int) (hb : isU8 bs) (hbl : bs.length ≤ 2000) (p : Int) (hp : 0 ≤ p) (hp2 : p ≤ 80000000000) : RdS prog 92 90 bs p [] (fun x q => ∃ ys : List Int, x = ints ys ∧ (ys.length ≤ 20 ∧ bdI 1000000000 ys) ∧ (p ≤ q ∧ q ≤ p + 30)) := by
  refine callS_of_VS sl_spec_someKeys (by simp) ?_
  refine VS_seq ?_
  refine VS_r0 rfl ?_
  refine q_mv rfl ?_
  refine rg_nil ?_
  refine VS_seq ?_
  refine VS_r0 rfl ?_
  refine q_lit0 ?_
  refine q_mv rfl ?_
  refine rg_nil ?_
  refine VS_seq ?_
  refine VS_r0 rfl ?_
  refine q_mv rfl ?_
  refine q_rd rfl (c_spec_reader_pick bs hb hbl _ (by omega) 10 (by omega) (by omega)) rfl rfl (fun _ => (by first | exact trivial | exact Sub.nil | exact Sub.set (Sub.refl _) _ _ (by simp) | exact SubL.sub (by repeat (first | exact SubL.nil | apply SubL.none | apply SubL.some | apply SubL.sh | apply SubL.eq)) | (refine Sub.of_eq ?_; intro o ob h; rcases o with _ | _ | _ | _ | o <;> simp_all))) ?_
  rintro _ q8 ⟨a, rfl, q_a, rfl⟩
  refine q_mv rfl ?_
  refine rg_nil ?_
  refine VS_seq ?_
  refine VS_seq ?_
  refine VS_r0 rfl ?_
  refine q_mv rfl ?_
  refine q_lit (xs := [5, 8, 3, 12, 1, 0].map (.int .i64)) rfl rfl rfl rfl ?_
  refine q_rd rfl (c_spec_reader_one bs hb hbl _ (by omega) [5, 8, 3, 12, 1, 0] (by simp) (by simp) (by omega)) rfl rfl (fun _ => (by first | exact trivial | exact Sub.nil | exact Sub.set (Sub.refl _) _ _ (by simp) | exact SubL.sub (by repeat (first | exact SubL.nil | apply SubL.none | apply SubL.some | apply SubL.sh | apply SubL.eq)) | (refine Sub.of_eq ?_; intro o ob h; rcases o with _ | _ | _ | _ | o <;> simp_all))) ?_
  rintro _ q11 ⟨c, rfl, q_c, rfl⟩
  refine q_mv rfl ?_
  refine rg_nil ?_
  refine VS_block ?_
  simp only [List.mem_cons, List.not_mem_nil, or_false] at q_c
  refine VS_bd (Bd.pad ?_)
  refine VS_bd (Bd.keepL [(0, .ptr 0 0 0), (3, ownD 1 (dI ([]))), (4, .pv (i64 a)), (5, .pv (i64 c))] ⟨rfl, rfl, rfl, rfl, trivial⟩ ?_)
  refine VS_loop (fun mz E S => ∃ k : Int, ∃ m : Int, ∃ ys : List Int, ∃ q : Int, mz = k.toNat ∧ (-1 ≤ k ∧ k ≤ 12) ∧ (0 ≤ m ∧ m ≤ 1000) ∧ (p ≤ q ∧ q ≤ p + 2 + (12 - k)) ∧ ((ys.length : Int) ≤ 12 - k) ∧ (bdI 1000000000 ys) ∧ E = env [(0, .ptr 0 0 0), (3, ownD 1 (dI ys)), (4, .pv (i64 m)), (5, .pv (i64 k))] ∧ S = [some (rdr 90 bs q), obD 3 1 (dI ys)]) ⟨_, c, a, [], (p + 1 + 1), rfl, (by first | omega | (intros; omega) | simp), (by first | omega | (intros; omega) | simp), (by first | omega | (intros; omega) | simp), (by simp; omega), bdI.nil, rfl, rfl⟩ ?_
  rintro mz _ _ ⟨k, m, ys, q, hmeas, g0, g1, g2, g3, hys, rfl, rfl⟩
  refine VS_seq ?_
  refine VS_seq ?_
  refine VS_r0 rfl ?_
  refine q_mv rfl ?_
  refine q_gtr rfl rfl ?_
  refine q_mv rfl ?_
  refine q_b rfl (fun g14 => ?_) (fun g14 => ?_)
  · try simp at g14
    refine q_t rfl ?_
    refine q_mv rfl ?_
    refine q_t rfl ?_
    refine q_leq rfl rfl ?_
    refine q_pick_t rfl rfl ?_
    refine rg_nil ?_
    refine VS_cond rfl (fun c0 => ?_) (fun c0 => ?_)
    · try simp at c0
      refine VS_skip ?_
      refine VS_seq ?_
      refine VS_block ?_
      refine VS_seq ?_
      refine VS_r0 rfl ?_
      refine q_mv rfl ?_
      refine q_mv rfl ?_
      refine q_lit rfl rfl rfl rfl ?_
      refine q_app_dm (xs := ys) (ys := [m]) (f := fun k => .pv (i64 k)) rfl rfl rfl rfl ⟨by simp; omega, by simp; omega⟩ (by first | exact trivial | exact Sub.nil | exact Sub.refl _ | exact Sub.app _ _ | exact SubL.sub (by repeat (first | exact SubL.nil | apply SubL.none | apply SubL.some | apply SubL.sh | apply SubL.eq)) | (refine Sub.of_eq ?_; intro o ob h; rcases o with _ | _ | _ | _ | _ | o <;> simp_all)) ?_
      refine q_mv rfl ?_
      refine rg_nil ?_
      refine VS_r0 rfl ?_
      refine q_mv rfl ?_
      refine q_add rfl rfl (inR64 (by omega)) ?_
      refine q_mv rfl ?_
      refine q_rd rfl (c_spec_reader_pick bs hb hbl _ (by omega) 12 (by omega) (by omega)) rfl rfl (fun _ => (by first | exact trivial | exact Sub.nil | exact Sub.set (Sub.refl _) _ _ (by simp) | exact SubL.sub (by repeat (first | exact SubL.nil | apply SubL.none | apply SubL.some | apply SubL.sh | apply SubL.eq)) | (refine Sub.of_eq ?_; intro o ob h; rcases o with _ | _ | _ | _ | o <;> simp_all))) ?_
      rintro _ q27 ⟨e, rfl, q_e, rfl⟩
      refine q_add rfl rfl (inR64 (by omega)) ?_
      refine q_mv rfl ?_
      refine rg_nil ?_
      refine VS_r0 rfl ?_
      refine q_mv rfl ?_
      refine q_sub rfl rfl (inR64 (by omega)) ?_
      refine q_mv rfl ?_
      refine rg_nil ?_
      refine Bd.renL [0, 2] (fun i hi => by first | (exact absurd hi (Nat.not_lt_zero i)) | (have e : i = 0 := (by simp at hi; omega); subst e; rfl) | (have e : i = 0 ∨ i = 1 := (by simp at hi; omega); rcases e with rfl | rfl <;> rfl)) (by simp) [(0, .ptr 0 0 0), (3, ownD 1 (dI (ys ++ [m]))), (4, .pv (i64 (m + 1 + e))), (5, .pv (i64 (k - 1)))] ⟨rfl, inv_own rfl, rfl, rfl, trivial⟩ (l2 rfl (obD_mI _)) ⟨_, ?_, k - 1, m + 1 + e, ys ++ [m], q + 1, rfl, ?_, ?_, ?_, ?_, ?_, rfl, rfl⟩
      · first | omega | assumption | rfl | (simp; omega)
      · first | omega | assumption | rfl | (simp; omega)
      · first | omega | assumption | rfl | (simp; omega)
      · first | omega | assumption | rfl | (simp; omega)
      · simp
        omega
      · exact hys.app (bdI.one (by omega))
    · try simp at c0
      refine VS_exit ?_
      refine VS_seq ?_
      refine VS_bd (Bd.pure 3 1 3 1 (xs := dI ys) rfl rfl (toPVs_dI _) ?_)
      refine VS_r0 rfl ?_
      refine q_mv rfl ?_
      refine q_mv rfl ?_
      refine q_rd rfl (c_spec_reader_spoil bs hb hbl _ (by omega) ys 100 (by omega) hys (by omega) (by omega)) rfl rfl (fun _ => (by first | exact trivial | exact Sub.nil | exact Sub.set (Sub.refl _) _ _ (by simp) | exact SubL.sub (by repeat (first | exact SubL.nil | apply SubL.none | apply SubL.some | apply SubL.sh | apply SubL.eq)) | (refine Sub.of_eq ?_; intro o ob h; rcases o with _ | _ | _ | _ | o <;> simp_all))) ?_
      rintro _ q31 ⟨zs, rfl, ⟨hz1, hz2⟩, ⟨hq1, hq2⟩⟩
      refine q_mv rfl ?_
      refine rg_nil ?_
      refine VS_ret ?_
      refine Bd.renL [0] (fun i hi => by have e : i = 0 := (by simp at hi; omega); subst e; rfl) (by simp) [(2, .pv (ints zs))] ⟨rfl, trivial⟩ rfl ?_
      exact ⟨_, rfl, _, _, _, rfl, ⟨_, rfl, ⟨by omega, hz2⟩, ⟨by omega, by omega⟩⟩, rfl⟩
  · try simp at g14
    refine q_f rfl ?_
    refine q_f rfl ?_
    refine q_pick_f rfl rfl ?_
    refine rg_nil ?_
    refine VS_cond rfl (fun e => by cases e) (fun _ => ?_)
    refine VS_exit ?_
    refine VS_seq ?_
    refine VS_bd (Bd.pure 3 1 3 1 (xs := dI ys) rfl rfl (toPVs_dI _) ?_)
    refine VS_r0 rfl ?_
    refine q_mv rfl ?_
    refine q_mv rfl ?_
    refine q_rd rfl (c_spec_reader_spoil bs hb hbl _ (by omega) ys 100 (by omega) hys (by omega) (by omega)) rfl rfl (fun _ => (by first | exact trivial | exact Sub.nil | exact Sub.set (Sub.refl _) _ _ (by simp) | exact SubL.sub (by repeat (first | exact SubL.nil | apply SubL.none | apply SubL.some | apply SubL.sh | apply SubL.eq)) | (refine Sub.of_eq ?_; intro o ob h; rcases o with _ | _ | _ | _ | o <;> simp_all))) ?_
    rintro _ q31 ⟨zs, rfl, ⟨hz1, hz2⟩, ⟨hq1, hq2⟩⟩
    refine q_mv rfl ?_
    refine rg_nil ?_
    refine VS_ret ?_
    refine Bd.renL [0] (fun i hi => by have e : i = 0 := (by simp at hi; omega); subst e; rfl) (by simp) [(2, .pv (ints zs))] ⟨rfl, trivial⟩ rfl ?_
    exact ⟨_, rfl, _, _, _, rfl, ⟨_, rfl, ⟨by omega, hz2⟩, ⟨by omega, by omega⟩⟩, rfl⟩
theorem c_spec_anyInner (bs : List Int) (hb : isU8 bs) (hbl : bs.length ≤ 2000) (p : Int) (hp : 0 ≤ p) (hp2 : p ≤ 70000000000) : RdS prog 49 90 bs p [] (fun x q => ∃ ks cs : List Int, x = innP ks cs ∧ ((ks.length ≤ 100 ∧ cs.length ≤ 100) ∧ bdI 1000000000 ks ∧ bdI 1000000000 cs) ∧ (p ≤ q ∧ q ≤ p + 40)) := by
  refine callS_of_VS sl_spec_anyInner (by simp) ?_
  refine VS_seq ?_
  refine VS_r0 rfl ?_
  refine q_alloc (by first | exact trivial | exact Sub.nil | exact Sub.refl _ | exact Sub.app _ _ | exact SubL.sub (by repeat (first | exact SubL.nil | apply SubL.none | apply SubL.some | apply SubL.sh | apply SubL.eq)) | (refine Sub.of_eq ?_; intro o ob h; rcases o with _ | _ | _ | _ | _ | o <;> simp_all)) ?_
  refine rg_nil ?_
  refine VS_seq ?_
  refine VS_r0 rfl ?_
  refine q_lit0 ?_
  refine q_mv rfl ?_
  refine q_rd rfl (c_spec_reader_pick bs hb hbl _ (by omega) 4 (by omega) (by omega)) rfl rfl (fun _ => (by first | exact trivial | exact Sub.nil | exact Sub.set (Sub.refl _) _ _ (by simp) | exact SubL.sub (by repeat (first | exact SubL.nil | apply SubL.none | apply SubL.some | apply SubL.sh | apply SubL.eq)) | (refine Sub.of_eq ?_; intro o ob h; rcases o with _ | _ | _ | _ | o <;> simp_all))) ?_
  rintro _ q8 ⟨a, rfl, q_a, rfl⟩
  refine q_lito (xs := [i64 a]) rfl rfl rfl rfl ?_
  refine q_build rfl ?_
  refine q_alloc (by first | exact trivial | exact Sub.nil | exact Sub.refl _ | exact Sub.app _ _ | exact SubL.sub (by repeat (first | exact SubL.nil | apply SubL.none | apply SubL.some | apply SubL.sh | apply SubL.eq)) | (refine Sub.of_eq ?_; intro o ob h; rcases o with _ | _ | _ | _ | _ | o <;> simp_all)) ?_
  first | refine q_store rfl rfl rfl rfl rfl rfl ⟨rfl, rfl, by simp, rfl, by simp [isOne]⟩ rfl (by first | exact trivial | exact Sub.nil | exact Sub.refl _ | exact Sub.app _ _ | exact SubL.sub (by repeat (first | exact SubL.nil | apply SubL.none | apply SubL.some | apply SubL.sh | apply SubL.eq)) | (refine Sub.of_eq ?_; intro o ob h; rcases o with _ | _ | _ | _ | _ | o <;> simp_all)) ?_ | refine q_storeF rfl rfl rfl rfl rfl (by simp) (by first | exact trivial | exact Sub.nil | exact Sub.refl _ | exact Sub.app _ _ | exact SubL.sub (by repeat (first | exact SubL.nil | apply SubL.none | apply SubL.some | apply SubL.sh | apply SubL.eq)) | (refine Sub.of_eq ?_; intro o ob h; rcases o with _ | _ | _ | _ | _ | o <;> simp_all)) ?_ | refine q_store rfl rfl rfl rfl rfl rfl ⟨rfl, rfl, by simp, by simp [setAt, isCell_own, isCell_sl, isCell_int, isCell_nils], by simp [isOne]⟩ rfl (by first | exact trivial | exact Sub.nil | exact Sub.refl _ | exact Sub.app _ _ | exact SubL.sub (by repeat (first | exact SubL.nil | apply SubL.none | apply SubL.some | apply SubL.sh | apply SubL.eq)) | (refine Sub.of_eq ?_; intro o ob h; rcases o with _ | _ | _ | _ | _ | o <;> simp_all)) ?_
  refine rg_nil ?_
  refine VS_bd (Bd.pad ?_)
  refine VS_bd (Bd.frzF 4 3 0 0 3 1 (xs := []) (ps := []) (by decide) rfl rfl rfl rfl rfl ?_)
  refine VS_seq ?_
  refine VS_r0 rfl ?_
  refine q_mv rfl ?_
  refine q_rd rfl (c_spec_reader_pick bs hb hbl _ (by omega) 20 (by omega) (by omega)) rfl rfl (fun _ => (by first | exact trivial | exact Sub.nil | exact Sub.set (Sub.refl _) _ _ (by simp) | exact SubL.sub (by repeat (first | exact SubL.nil | apply SubL.none | apply SubL.some | apply SubL.sh | apply SubL.eq)) | (refine Sub.of_eq ?_; intro o ob h; rcases o with _ | _ | _ | _ | o <;> simp_all))) ?_
  rintro _ q12 ⟨b, rfl, q_b, rfl⟩
  refine q_mv rfl ?_
  refine rg_nil ?_
  refine VS_seq ?_
  refine VS_seq ?_
  refine VS_r0 rfl ?_
  refine q_mv rfl ?_
  refine q_lit (xs := [3, 4, 2, 5, 1].map (.int .i64)) rfl rfl rfl rfl ?_
  refine q_rd rfl (c_spec_reader_one bs hb hbl _ (by omega) [3, 4, 2, 5, 1] (by simp) (by simp) (by omega)) rfl rfl (fun _ => (by first | exact trivial | exact Sub.nil | exact Sub.set (Sub.refl _) _ _ (by simp) | exact SubL.sub (by repeat (first | exact SubL.nil | apply SubL.none | apply SubL.some | apply SubL.sh | apply SubL.eq)) | (refine Sub.of_eq ?_; intro o ob h; rcases o with _ | _ | _ | _ | o <;> simp_all))) ?_
  rintro _ q15 ⟨c, rfl, q_c, rfl⟩
  refine q_mv rfl ?_
  refine rg_nil ?_
  refine VS_block ?_
  simp only [List.mem_cons, List.not_mem_nil, or_false] at q_c
  refine VS_bd (Bd.keepL [(0, .ptr 0 0 0), (2, .ptr 1 0 0), (3, .ptr 3 0 0), (4, .pv (i64 b)), (5, .pv (i64 c))] ⟨rfl, rfl, rfl, rfl, rfl, trivial⟩ ?_)
  refine VS_loop (fun mz E S => ∃ k : Int, ∃ m : Int, ∃ ks : List Int, ∃ cs : List Int, ∃ q : Int, mz = k.toNat ∧ (0 ≤ k ∧ k ≤ 5) ∧ (0 ≤ m ∧ m ≤ 200 - 17 * k) ∧ (p ≤ q ∧ q ≤ p + 3 + 2 * (5 - k)) ∧ ((ks.length : Int) = c - k ∧ cs.length = ks.length + 1) ∧ (bdI 1000 ks) ∧ (bdI (100 - 3 * k) cs) ∧ E = env [(0, .ptr 0 0 0), (2, .ptr 1 0 0), (3, .ptr 3 0 0), (4, .pv (i64 m)), (5, .pv (i64 k))] ∧ S = [some (rdr 90 bs q), some ⟨25, 2, [.agg [.nils, .nils]]⟩, obD 3 1 (dI cs), some ⟨25, 2, [.agg [.pv (ints ks), ownD 2 (dI cs)]]⟩, none]) ⟨_, c, b, [], [a], (p + 1 + 1 + 1), rfl, (by first | omega | (intros; omega) | simp), (by first | omega | (intros; omega) | simp), (by first | omega | (intros; omega) | simp), ⟨by simp, rfl⟩, bdI.nil, bdI.one (by omega), rfl, rfl⟩ ?_
  rintro mz _ _ ⟨k, m, ks, cs, q, hmeas, g0, g1, g2, g3, hks, hcs, rfl, rfl⟩
  refine VS_seq ?_
  refine VS_seq ?_
  refine VS_r0 rfl ?_
  refine q_mv rfl ?_
  refine q_gtr rfl rfl ?_
  refine rg_nil ?_
  refine VS_cond rfl (fun c0 => ?_) (fun c0 => ?_)
  · try simp at c0
    refine VS_skip ?_
    refine VS_seq ?_
    refine VS_block ?_
    refine VS_seq ?_
    refine VS_r0 rfl ?_
    first | refine q_fld_r rfl ?_ | refine q_fld_c rfl rfl ?_
    first | refine q_load_c rfl rfl rfl ?_ | refine q_load_r rfl rfl rfl rfl rfl rfl rfl ?_ | refine q_load_o rfl rfl rfl rfl rfl ?_
    refine q_new rfl (c_spec_copyInts ks (by omega)) (flat_I _) (by first | rfl | (repeat' (first | exact toRs_nil | refine toRs_cons ?_ ?_ | rfl | exact toR_I rfl | exact toR_P rfl | refine toR_agg2 ?_ ?_ | refine toR_agg3 ?_ ?_ ?_))) (by first | exact trivial | exact Sub.nil | exact Sub.refl _ | exact Sub.app _ _ | exact SubL.sub (by repeat (first | exact SubL.nil | apply SubL.none | apply SubL.some | apply SubL.sh | apply SubL.eq)) | (refine Sub.of_eq ?_; intro o ob h; rcases o with _ | _ | _ | _ | _ | o <;> simp_all)) ?_
    refine q_mv rfl ?_
    refine q_lit rfl rfl rfl rfl ?_
    refine q_app_dm (xs := ks) (ys := [m]) (f := fun k => .pv (i64 k)) rfl rfl rfl rfl ⟨by simp; omega, by simp; omega⟩ (by first | exact trivial | exact Sub.nil | exact Sub.refl _ | exact Sub.app _ _ | exact SubL.sub (by repeat (first | exact SubL.nil | apply SubL.none | apply SubL.some | apply SubL.sh | apply SubL.eq)) | (refine Sub.of_eq ?_; intro o ob h; rcases o with _ | _ | _ | _ | _ | o <;> simp_all)) ?_
    first | refine q_fld_r rfl ?_ | refine q_fld_c rfl rfl ?_
    first | refine q_store rfl rfl rfl rfl rfl rfl ⟨rfl, rfl, by simp, rfl, by simp [isOne]⟩ rfl (by first | exact trivial | exact Sub.nil | exact Sub.refl _ | exact Sub.app _ _ | exact SubL.sub (by repeat (first | exact SubL.nil | apply SubL.none | apply SubL.some | apply SubL.sh | apply SubL.eq)) | (refine Sub.of_eq ?_; intro o ob h; rcases o with _ | _ | _ | _ | _ | o <;> simp_all)) ?_ | refine q_storeF rfl rfl rfl rfl rfl (by simp) (by first | exact trivial | exact Sub.nil | exact Sub.refl _ | exact Sub.app _ _ | exact SubL.sub (by repeat (first | exact SubL.nil | apply SubL.none | apply SubL.some | apply SubL.sh | apply SubL.eq)) | (refine Sub.of_eq ?_; intro o ob h; rcases o with _ | _ | _ | _ | _ | o <;> simp_all)) ?_ | refine q_store rfl rfl rfl rfl rfl rfl ⟨rfl, rfl, by simp, by simp [setAt, isCell_own, isCell_sl, isCell_int, isCell_nils], by simp [isOne]⟩ rfl (by first | exact trivial | exact Sub.nil | exact Sub.refl _ | exact Sub.app _ _ | exact SubL.sub (by repeat (first | exact SubL.nil | apply SubL.none | apply SubL.some | apply SubL.sh | apply SubL.eq)) | (refine Sub.of_eq ?_; intro o ob h; rcases o with _ | _ | _ | _ | _ | o <;> simp_all)) ?_
    refine rg_nil ?_
    refine VS_bd (Bd.frzF 6 3 0 0 3 1 (xs := dI (ks ++ [m])) (by decide) rfl (toPVs_dI _) rfl rfl rfl ?_)
    refine VS_st [some (rdr 90 bs q), some ⟨25, 2, [.agg [.nils, .nils]]⟩, obD 3 1 (dI cs), some ⟨25, 2, [.agg [.pv (ints (ks ++ [m])), ownD 2 (dI cs)]]⟩, none, none, none] rfl ?_
    refine VS_seq ?_
    refine VS_r2 [none, none, obD 3 1 (dI cs), some ⟨25, 2, [.agg [.pv (ints (ks ++ [m])), ownD 2 (dI cs)]]⟩] hmix (SubL.sub (by repeat (first | exact SubL.nil | apply SubL.none | apply SubL.some | apply SubL.sh | apply SubL.eq))) ?_
    first | refine q_fld_r rfl ?_ | refine q_fld_c rfl rfl ?_
    first | refine q_load_c rfl rfl rfl ?_ | refine q_load_r rfl rfl rfl rfl rfl rfl rfl ?_ | refine q_load_o rfl rfl rfl rfl rfl ?_
    first | refine q_fld_r rfl ?_ | refine q_fld_c rfl rfl ?_
    first | refine q_load_c rfl rfl rfl ?_ | refine q_load_r rfl rfl rfl rfl rfl rfl rfl ?_ | refine q_load_o rfl rfl rfl rfl rfl ?_
    first | refine q_fld_r rfl ?_ | refine q_fld_c rfl rfl ?_
    first | refine q_load_c rfl rfl rfl ?_ | refine q_load_r rfl rfl rfl rfl rfl rfl rfl ?_ | refine q_load_o rfl rfl rfl rfl rfl ?_
    refine q_len_dm rfl ?_
    refine q_sub rfl rfl (inR64 (by omega)) ?_
    have hlast := hcs (cs.length - 1) (by omega)
    refine q_idx_dm (ty := 3) (xs := cs) rfl rfl (by omega) (by omega) rfl ?_
    rw [show ((cs.length : Int) - 1).toNat = cs.length - 1 by omega]
    refine q_load_d (ty := 3) (xs := cs) rfl rfl (by omega) rfl rfl rfl ?_
    refine q_add rfl rfl (inR64 (by omega)) ?_
    refine q_mv rfl ?_
    refine q_new rfl (c_spec_copyInts cs (by omega)) (flat_I _) (by first | rfl | (repeat' (first | exact toRs_nil | refine toRs_cons ?_ ?_ | rfl | exact toR_I rfl | exact toR_P rfl | refine toR_agg2 ?_ ?_ | refine toR_agg3 ?_ ?_ ?_))) (by first | exact trivial | exact Sub.nil | exact Sub.refl _ | exact Sub.app _ _ | exact SubL.sub (by repeat (first | exact SubL.nil | apply SubL.none | apply SubL.some | apply SubL.sh | apply SubL.eq)) | (refine Sub.of_eq ?_; intro o ob h; rcases o with _ | _ | _ | _ | _ | o <;> simp_all)) ?_
    refine q_rd rfl (c_spec_reader_pick bs hb hbl _ (by omega) 2 (by omega) (by omega)) rfl rfl (fun _ => (by first | exact trivial | exact Sub.nil | exact Sub.set (Sub.refl _) _ _ (by simp) | exact SubL.sub (by repeat (first | exact SubL.nil | apply SubL.none | apply SubL.some | apply SubL.sh | apply SubL.eq)) | (refine Sub.of_eq ?_; intro o ob h; rcases o with _ | _ | _ | _ | o <;> simp_all))) ?_
    rintro _ q40 ⟨e, rfl, q_e, rfl⟩
    refine q_add rfl rfl (inR64 (by omega)) ?_
    refine q_lit rfl rfl rfl rfl ?_
    refine q_app_dm (xs := cs) (ys := [nth cs (cs.length - 1) + 1 + e]) (f := fun k => .pv (i64 k)) rfl rfl rfl rfl ⟨by simp; omega, by simp; omega⟩ (by first | exact trivial | exact Sub.nil | exact Sub.set (Sub.refl _) _ _ (by simp) | exact SubL.sub (by repeat (first | exact SubL.nil | apply SubL.none | apply SubL.some | apply SubL.sh | apply SubL.eq)) | (refine Sub.of_eq ?_; intro o ob h; rcases o with _ | _ | _ | _ | o <;> simp_all)) ?_
    first | refine q_fld_r rfl ?_ | refine q_fld_c rfl rfl ?_
    refine q_last ?_
    first | refine q_store rfl rfl rfl rfl rfl rfl ⟨rfl, rfl, by simp, rfl, by simp [isOne]⟩ rfl (by first | exact trivial | exact Sub.nil | exact Sub.refl _ | exact Sub.app _ _ | exact SubL.sub (by repeat (first | exact SubL.nil | apply SubL.none | apply SubL.some | apply SubL.sh | apply SubL.eq)) | (refine Sub.of_eq ?_; intro o ob h; rcases o with _ | _ | _ | _ | _ | o <;> simp_all)) ?_ | refine q_storeF rfl rfl rfl rfl rfl (by simp) (by first | exact trivial | exact Sub.nil | exact Sub.refl _ | exact Sub.app _ _ | exact SubL.sub (by repeat (first | exact SubL.nil | apply SubL.none | apply SubL.some | apply SubL.sh | apply SubL.eq)) | (refine Sub.of_eq ?_; intro o ob h; rcases o with _ | _ | _ | _ | _ | o <;> simp_all)) ?_ | refine q_store rfl rfl rfl rfl rfl rfl ⟨rfl, rfl, by simp, by simp [setAt, isCell_own, isCell_sl, isCell_int, isCell_nils], by simp [isOne]⟩ rfl (by first | exact trivial | exact Sub.nil | exact Sub.refl _ | exact Sub.app _ _ | exact SubL.sub (by repeat (first | exact SubL.nil | apply SubL.none | apply SubL.some | apply SubL.sh | apply SubL.eq)) | (refine Sub.of_eq ?_; intro o ob h; rcases o with _ | _ | _ | _ | _ | o <;> simp_all)) ?_
    refine rg_nil ?_
    refine VS_r0 rfl ?_
    refine q_mv rfl ?_
    refine q_add rfl rfl (inR64 (by omega)) ?_
    refine q_mv rfl ?_
    refine q_rd rfl (c_spec_reader_pick bs hb hbl _ (by omega) 16 (by omega) (by omega)) rfl rfl (fun _ => (by first | exact trivial | exact Sub.nil | exact Sub.set (Sub.refl _) _ _ (by simp) | exact SubL.sub (by repeat (first | exact SubL.nil | apply SubL.none | apply SubL.some | apply SubL.sh | apply SubL.eq)) | (refine Sub.of_eq ?_; intro o ob h; rcases o with _ | _ | _ | _ | o <;> simp_all))) ?_
    rintro _ q48 ⟨f, rfl, q_f, rfl⟩
    refine q_add rfl rfl (inR64 (by omega)) ?_
    refine q_mv rfl ?_
    refine rg_nil ?_
    refine VS_r0 rfl ?_
    refine q_mv rfl ?_
    refine q_sub rfl rfl (inR64 (by omega)) ?_
    refine q_mv rfl ?_
    refine rg_nil ?_
    refine Bd.renL [0, 1, 8, 3, 4] (fun i hi => by first | (exact absurd hi (Nat.not_lt_zero i)) | (have e : i = 0 := (by simp at hi; omega); subst e; rfl) | (have e : i = 0 ∨ i = 1 := (by simp at hi; omega); rcases e with rfl | rfl <;> rfl)) (by simp) [(0, .ptr 0 0 0), (2, .ptr 1 0 0), (3, .ptr 3 0 0), (4, .pv (i64 (m + 1 + f))), (5, .pv (i64 (k - 1)))] ⟨rfl, rfl, rfl, rfl, rfl, trivial⟩ (l5 rfl rfl (obD_mI _) (congrArg (fun z => some (⟨25, 2, [.agg [.pv (ints (ks ++ [m])), z]]⟩ : Ob)) (mp1_own rfl)) rfl) ⟨_, ?_, k - 1, m + 1 + f, ks ++ [m], cs ++ [nth cs (cs.length - 1) + 1 + e], q + 1 + 1, rfl, ?_, ?_, ?_, ?_, ?_, ?_, rfl, rfl⟩
    · first | omega | assumption | rfl | (simp; omega)
    · first | omega | assumption | rfl | (simp; omega)
    · first | omega | assumption | rfl | (simp; omega)
    · first | omega | assumption | rfl | (simp; omega)
    · simp
      omega
    · exact hks.app (bdI.one (by omega))
    · exact (hcs.le (by omega)).app (bdI.one (by omega))
  · try simp at c0
    refine VS_exit ?_
    refine VS_join (fun E S => ∃ ks cs q, (((ks.length ≤ 100 ∧ cs.length ≤ 100) ∧ bdI 1000000000 ks ∧ bdI 1000000000 cs) ∧ (p ≤ q ∧ q ≤ p + 40)) ∧ E = env [(2, .ptr 1 0 0), (3, .ptr 2 0 0)] ∧ S = [some (rdr 90 bs q), some ⟨25, 2, [.agg [.nils, .nils]]⟩, some ⟨25, 2, [.agg [.pv (ints ks), .pv (ints cs)]]⟩]) ?_ ?_
    · skip
      refine VS_seq ?_
      refine VS_r0 rfl ?_
      refine q_mv rfl ?_
      refine q_rd rfl (c_spec_reader_pick bs hb hbl _ (by omega) 24 (by omega) (by omega)) rfl rfl (fun _ => (by first | exact trivial | exact Sub.nil | exact Sub.set (Sub.refl _) _ _ (by simp) | exact SubL.sub (by repeat (first | exact SubL.nil | apply SubL.none | apply SubL.some | apply SubL.sh | apply SubL.eq)) | (refine Sub.of_eq ?_; intro o ob h; rcases o with _ | _ | _ | _ | o <;> simp_all))) ?_
      rintro _ q51 ⟨u, rfl, q_u, rfl⟩
      refine rg_nil ?_
      refine VS_block ?_
      refine VS_seq ?_
      refine VS_r0 rfl ?_
      refine q_eql rfl rfl ?_
      refine q_mv rfl ?_
      refine rg_nil ?_
      refine VS_cond rfl (fun c1 => ?_) (fun c1 => ?_)
      · try simp at c1
        refine VS_r0 rfl ?_
        refine q_mv rfl ?_
        first | refine q_fld_r rfl ?_ | refine q_fld_c rfl rfl ?_
        first | refine q_load_c rfl rfl rfl ?_ | refine q_load_r rfl rfl rfl rfl rfl rfl rfl ?_ | refine q_load_o rfl rfl rfl rfl rfl ?_
        refine q_rd rfl (c_spec_reader_spoil bs hb hbl _ (by omega) ks 100 (by omega) (hks.le (by omega)) (by omega) (by omega)) rfl rfl (fun _ => (by first | exact trivial | exact Sub.nil | exact Sub.set (Sub.refl _) _ _ (by simp) | exact SubL.sub (by repeat (first | exact SubL.nil | apply SubL.none | apply SubL.some | apply SubL.sh | apply SubL.eq)) | (refine Sub.of_eq ?_; intro o ob h; rcases o with _ | _ | _ | _ | o <;> simp_all))) ?_
        rintro _ q57 ⟨zs, rfl, ⟨hz1, hz2⟩, ⟨hq1, hq2⟩⟩
        first | refine q_fld_r rfl ?_ | refine q_fld_c rfl rfl ?_
        first | refine q_store rfl rfl rfl rfl rfl rfl ⟨rfl, rfl, by simp, rfl, by simp [isOne]⟩ rfl (by first | exact trivial | exact Sub.nil | exact Sub.refl _ | exact Sub.app _ _ | exact SubL.sub (by repeat (first | exact SubL.nil | apply SubL.none | apply SubL.some | apply SubL.sh | apply SubL.eq)) | (refine Sub.of_eq ?_; intro o ob h; rcases o with _ | _ | _ | _ | _ | o <;> simp_all)) ?_ | refine q_storeF rfl rfl rfl rfl rfl (by simp) (by first | exact trivial | exact Sub.nil | exact Sub.refl _ | exact Sub.app _ _ | exact SubL.sub (by repeat (first | exact SubL.nil | apply SubL.none | apply SubL.some | apply SubL.sh | apply SubL.eq)) | (refine Sub.of_eq ?_; intro o ob h; rcases o with _ | _ | _ | _ | _ | o <;> simp_all)) ?_ | refine q_store rfl rfl rfl rfl rfl rfl ⟨rfl, rfl, by simp, by simp [setAt, isCell_own, isCell_sl, isCell_int, isCell_nils], by simp [isOne]⟩ rfl (by first | exact trivial | exact Sub.nil | exact Sub.refl _ | exact Sub.app _ _ | exact SubL.sub (by repeat (first | exact SubL.nil | apply SubL.none | apply SubL.some | apply SubL.sh | apply SubL.eq)) | (refine Sub.of_eq ?_; intro o ob h; rcases o with _ | _ | _ | _ | _ | o <;> simp_all)) ?_
        refine rg_nil ?_
        first
          | refine Bd.frzFB 2 3 0 1 3 1 (xs := dI (cs.set 0 (nth cs 1))) (by decide) rfl (toPVs_dI _) rfl rfl (congrArg some (ownD_len (o := 2) (xs := dI cs) (by simp))) ?_
          | refine Bd.frzFB 2 3 0 1 3 1 (xs := dI cs) (by decide) rfl (toPVs_dI _) rfl rfl rfl ?_
          | skip
        refine Bd.renL [0, 1, 3] (fun i hi => by first | (exact absurd hi (Nat.not_lt_zero i)) | (have e : i = 0 := (by simp at hi; omega); subst e; rfl) | (have e : i = 0 ∨ i = 1 := (by simp at hi; omega); rcases e with rfl | rfl <;> rfl)) (by simp) [(2, .ptr 1 0 0), (3, .ptr 2 0 0)] ⟨rfl, rfl, trivial⟩ rfl ?_
        first
          | exact ⟨_, _, _, ⟨⟨⟨by omega, by simp; omega⟩, hks.le (by omega), (hcs.le (by omega)).set 0 (by have := hcs 1 (by omega); omega)⟩, by omega, by omega⟩, rfl, rfl⟩
          | exact ⟨_, _, _, ⟨⟨⟨by omega, by omega⟩, hz2, hcs.le (by omega)⟩, by omega, by omega⟩, rfl, rfl⟩
          | exact ⟨_, _, _, ⟨⟨⟨by omega, by omega⟩, hks.le (by omega), hz2⟩, by omega, by omega⟩, rfl, rfl⟩
          | exact ⟨_, _, _, ⟨⟨⟨by omega, by omega⟩, hks.le (by omega), hcs.le (by omega)⟩, by omega, by omega⟩, rfl, rfl⟩
      · try simp at c1
        refine VS_seq ?_
        refine VS_r0 rfl ?_
        refine q_eql rfl rfl ?_
        refine q_mv rfl ?_
        refine rg_nil ?_
        refine VS_cond rfl (fun c2 => ?_) (fun c2 => ?_)
        · try simp at c2
          refine VS_bd (Bd.frzF 2 3 0 1 3 1 (xs := dI cs) (by decide) rfl (toPVs_dI _) rfl rfl rfl ?_)
          refine VS_r0 rfl ?_
          refine q_mv rfl ?_
          first | refine q_fld_r rfl ?_ | refine q_fld_c rfl rfl ?_
          first | refine q_load_c rfl rfl rfl ?_ | refine q_load_r rfl rfl rfl rfl rfl rfl rfl ?_ | refine q_load_o rfl rfl rfl rfl rfl ?_
          refine q_rd rfl (c_spec_reader_spoil bs hb hbl _ (by omega) cs 16 (by omega) (hcs.le (by omega)) (by omega) (by omega)) rfl rfl (fun _ => (by first | exact trivial | exact Sub.nil | exact Sub.set (Sub.refl _) _ _ (by simp) | exact SubL.sub (by repeat (first | exact SubL.nil | apply SubL.none | apply SubL.some | apply SubL.sh | apply SubL.eq)) | (refine Sub.of_eq ?_; intro o ob h; rcases o with _ | _ | _ | _ | o <;> simp_all))) ?_
          rintro _ q64 ⟨zs, rfl, ⟨hz1, hz2⟩, ⟨hq1, hq2⟩⟩
          first | refine q_fld_r rfl ?_ | refine q_fld_c rfl rfl ?_
          first | refine q_store rfl rfl rfl rfl rfl rfl ⟨rfl, rfl, by simp, rfl, by simp [isOne]⟩ rfl (by first | exact trivial | exact Sub.nil | exact Sub.refl _ | exact Sub.app _ _ | exact SubL.sub (by repeat (first | exact SubL.nil | apply SubL.none | apply SubL.some | apply SubL.sh | apply SubL.eq)) | (refine Sub.of_eq ?_; intro o ob h; rcases o with _ | _ | _ | _ | _ | o <;> simp_all)) ?_ | refine q_storeF rfl rfl rfl rfl rfl (by simp) (by first | exact trivial | exact Sub.nil | exact Sub.refl _ | exact Sub.app _ _ | exact SubL.sub (by repeat (first | exact SubL.nil | apply SubL.none | apply SubL.some | apply SubL.sh | apply SubL.eq)) | (refine Sub.of_eq ?_; intro o ob h; rcases o with _ | _ | _ | _ | _ | o <;> simp_all)) ?_ | refine q_store rfl rfl rfl rfl rfl rfl ⟨rfl, rfl, by simp, by simp [setAt, isCell_own, isCell_sl, isCell_int, isCell_nils], by simp [isOne]⟩ rfl (by first | exact trivial | exact Sub.nil | exact Sub.refl _ | exact Sub.app _ _ | exact SubL.sub (by repeat (first | exact SubL.nil | apply SubL.none | apply SubL.some | apply SubL.sh | apply SubL.eq)) | (refine Sub.of_eq ?_; intro o ob h; rcases o with _ | _ | _ | _ | _ | o <;> simp_all)) ?_
          refine rg_nil ?_
          first
            | refine Bd.frzFB 2 3 0 1 3 1 (xs := dI (cs.set 0 (nth cs 1))) (by decide) rfl (toPVs_dI _) rfl rfl (congrArg some (ownD_len (o := 2) (xs := dI cs) (by simp))) ?_
            | refine Bd.frzFB 2 3 0 1 3 1 (xs := dI cs) (by decide) rfl (toPVs_dI _) rfl rfl rfl ?_
            | skip
          refine Bd.renL [0, 1, 3] (fun i hi => by first | (exact absurd hi (Nat.not_lt_zero i)) | (have e : i = 0 := (by simp at hi; omega); subst e; rfl) | (have e : i = 0 ∨ i = 1 := (by simp at hi; omega); rcases e with rfl | rfl <;> rfl)) (by simp) [(2, .ptr 1 0 0), (3, .ptr 2 0 0)] ⟨rfl, rfl, trivial⟩ rfl ?_
          first
            | exact ⟨_, _, _, ⟨⟨⟨by omega, by simp; omega⟩, hks.le (by omega), (hcs.le (by omega)).set 0 (by have := hcs 1 (by omega); omega)⟩, by omega, by omega⟩, rfl, rfl⟩
            | exact ⟨_, _, _, ⟨⟨⟨by omega, by omega⟩, hz2, hcs.le (by omega)⟩, by omega, by omega⟩, rfl, rfl⟩
            | exact ⟨_, _, _, ⟨⟨⟨by omega, by omega⟩, hks.le (by omega), hz2⟩, by omega, by omega⟩, rfl, rfl⟩
            | exact ⟨_, _, _, ⟨⟨⟨by omega, by omega⟩, hks.le (by omega), hcs.le (by omega)⟩, by omega, by omega⟩, rfl, rfl⟩
        · try simp at c2
          refine VS_seq ?_
          refine VS_r0 rfl ?_
          refine q_eql rfl rfl ?_
          refine q_mv rfl ?_
          refine rg_nil ?_
          refine VS_cond rfl (fun c3 => ?_) (fun c3 => ?_)
          · try simp at c3
            refine VS_r2 [none, none, obD 3 1 (dI cs), some ⟨25, 2, [.agg [.pv (ints ks), ownD 2 (dI cs)]]⟩] hmix (SubL.sub (by repeat (first | exact SubL.nil | apply SubL.none | apply SubL.some | apply SubL.sh | apply SubL.eq))) ?_
            first | refine q_fld_r rfl ?_ | refine q_fld_c rfl rfl ?_
            first | refine q_load_c rfl rfl rfl ?_ | refine q_load_r rfl rfl rfl rfl rfl rfl rfl ?_ | refine q_load_o rfl rfl rfl rfl rfl ?_
            first | refine q_fld_r rfl ?_ | refine q_fld_c rfl rfl ?_
            first | refine q_load_c rfl rfl rfl ?_ | refine q_load_r rfl rfl rfl rfl rfl rfl rfl ?_ | refine q_load_o rfl rfl rfl rfl rfl ?_
            refine q_idx_dm (ty := 3) (xs := cs) rfl rfl (by omega) (by omega) rfl ?_
            refine q_load_d (ty := 3) (xs := cs) rfl rfl (by omega) rfl rfl rfl ?_
            refine q_idx_dm (ty := 3) (xs := cs) rfl rfl (by omega) (by omega) rfl ?_
            refine q_last ?_
            refine q_store_d (ty := 3) (xs := cs) rfl rfl rfl (by omega) trivial ?_
            refine rg_nil ?_
            first
              | refine Bd.frzFB 2 3 0 1 3 1 (xs := dI (cs.set 0 (nth cs 1))) (by decide) rfl (toPVs_dI _) rfl rfl (congrArg some (ownD_len (o := 2) (xs := dI cs) (by simp))) ?_
              | refine Bd.frzFB 2 3 0 1 3 1 (xs := dI cs) (by decide) rfl (toPVs_dI _) rfl rfl rfl ?_
              | skip
            refine Bd.renL [0, 1, 3] (fun i hi => by first | (exact absurd hi (Nat.not_lt_zero i)) | (have e : i = 0 := (by simp at hi; omega); subst e; rfl) | (have e : i = 0 ∨ i = 1 := (by simp at hi; omega); rcases e with rfl | rfl <;> rfl)) (by simp) [(2, .ptr 1 0 0), (3, .ptr 2 0 0)] ⟨rfl, rfl, trivial⟩ rfl ?_
            first
              | exact ⟨_, _, _, ⟨⟨⟨by omega, by simp; omega⟩, hks.le (by omega), (hcs.le (by omega)).set 0 (by have := hcs 1 (by omega); omega)⟩, by omega, by omega⟩, rfl, rfl⟩
              | exact ⟨_, _, _, ⟨⟨⟨by omega, by omega⟩, hz2, hcs.le (by omega)⟩, by omega, by omega⟩, rfl, rfl⟩
              | exact ⟨_, _, _, ⟨⟨⟨by omega, by omega⟩, hks.le (by omega), hz2⟩, by omega, by omega⟩, rfl, rfl⟩
              | exact ⟨_, _, _, ⟨⟨⟨by omega, by omega⟩, hks.le (by omega), hcs.le (by omega)⟩, by omega, by omega⟩, rfl, rfl⟩
          · try simp at c3
            refine VS_skip ?_
            first
              | refine Bd.frzFB 2 3 0 1 3 1 (xs := dI (cs.set 0 (nth cs 1))) (by decide) rfl (toPVs_dI _) rfl rfl (congrArg some (ownD_len (o := 2) (xs := dI cs) (by simp))) ?_
              | refine Bd.frzFB 2 3 0 1 3 1 (xs := dI cs) (by decide) rfl (toPVs_dI _) rfl rfl rfl ?_
              | skip
            refine Bd.renL [0, 1, 3] (fun i hi => by first | (exact absurd hi (Nat.not_lt_zero i)) | (have e : i = 0 := (by simp at hi; omega); subst e; rfl) | (have e : i = 0 ∨ i = 1 := (by simp at hi; omega); rcases e with rfl | rfl <;> rfl)) (by simp) [(2, .ptr 1 0 0), (3, .ptr 2 0 0)] ⟨rfl, rfl, trivial⟩ rfl ?_
            first
              | exact ⟨_, _, _, ⟨⟨⟨by omega, by simp; omega⟩, hks.le (by omega), (hcs.le (by omega)).set 0 (by have := hcs 1 (by omega); omega)⟩, by omega, by omega⟩, rfl, rfl⟩
              | exact ⟨_, _, _, ⟨⟨⟨by omega, by omega⟩, hz2, hcs.le (by omega)⟩, by omega, by omega⟩, rfl, rfl⟩
              | exact ⟨_, _, _, ⟨⟨⟨by omega, by omega⟩, hks.le (by omega), hz2⟩, by omega, by omega⟩, rfl, rfl⟩
              | exact ⟨_, _, _, ⟨⟨⟨by omega, by omega⟩, hks.le (by omega), hcs.le (by omega)⟩, by omega, by omega⟩, rfl, rfl⟩
    · rintro _ _ ⟨xs1, xs2, q1, ⟨hx1, hx2⟩, rfl, rfl⟩
      refine VS_seq ?_
      refine VS_r0 rfl ?_
      first | refine q_load_c rfl rfl rfl ?_ | refine q_load_ra rfl rfl rfl rfl rfl (by first | (simp; done) | (simp [setAt]; done)) rfl ?_
      first | refine q_store rfl rfl rfl rfl rfl rfl ⟨rfl, rfl, by simp, rfl, by simp [isOne]⟩ rfl (by first | exact trivial | exact Sub.nil | exact Sub.refl _ | exact Sub.app _ _ | exact SubL.sub (by repeat (first | exact SubL.nil | apply SubL.none | apply SubL.some | apply SubL.sh | apply SubL.eq)) | (refine Sub.of_eq ?_; intro o ob h; rcases o with _ | _ | _ | _ | _ | o <;> simp_all)) ?_ | refine q_storeF rfl rfl rfl rfl rfl (by simp) (by first | exact trivial | exact Sub.nil | exact Sub.refl _ | exact Sub.app _ _ | exact SubL.sub (by repeat (first | exact SubL.nil | apply SubL.none | apply SubL.some | apply SubL.sh | apply SubL.eq)) | (refine Sub.of_eq ?_; intro o ob h; rcases o with _ | _ | _ | _ | _ | o <;> simp_all)) ?_ | refine q_store rfl rfl rfl rfl rfl rfl ⟨rfl, rfl, by simp, by simp [setAt, isCell_own, isCell_sl, isCell_int, isCell_nils], by simp [isOne]⟩ rfl (by first | exact trivial | exact Sub.nil | exact Sub.refl _ | exact Sub.app _ _ | exact SubL.sub (by repeat (first | exact SubL.nil | apply SubL.none | apply SubL.some | apply SubL.sh | apply SubL.eq)) | (refine Sub.of_eq ?_; intro o ob h; rcases o with _ | _ | _ | _ | _ | o <;> simp_all)) ?_
      refine rg_nil ?_
      refine VS_ret ?_
      refine Bd.aggP 1 0 [ints xs1, ints xs2] rfl rfl ?_
      refine Bd.renL [0, 1] (fun i hi => by first | (exact absurd hi (Nat.not_lt_zero i)) | (have e : i = 0 := (by simp at hi; omega); subst e; rfl) | (have e : i = 0 ∨ i = 1 := (by simp at hi; omega); rcases e with rfl | rfl <;> rfl)) (by simp) [(2, .ptr 1 0 0)] ⟨rfl, trivial⟩ rfl ?_
      exact ⟨_, rfl, _, _, _, rfl, ⟨_, _, rfl, hx1, hx2⟩, rfl⟩
end Go.V
