/- Walks, printed by wip/tool/walk2.py. -/
import Derived.Test.YthamgiecgilmdaaTy
namespace Go.Proofs.Ythamgiecgilmdaa
open Go Go.RowKit

set_option maxRecDepth 100000 in
theorem f_EqualB (S : Im) (Aa : Option Addr) (ca : Nat) (a : List Int) (ha : RdA (kInt .u8) S Aa ca a) (Ab : Option Addr) (cb : Nat) (b : List Int) (hb : RdA (kInt .u8) S Ab cb b) : Fn Try.prog 15 [.slice Aa a.length ca, .slice Ab b.length cb] S [] fun v S' L' => ∃ (r0 : Bool), v = .bool r0 ∧ S = S' ∧ L' = [] ∧ (decide (a = b)) = r0 := by
  have hb_a := ha.bd
  have hb_b := hb.bd
  refine Fn_intro 26 Try.func15 rfl rfl rfl fun w0 => ?_
  refine C_seq ?_
  refine C_region rfl ?_
  refine T_pv rfl (pv_assign rfl) ?_
  refine T_nil ?_
  refine N_then ?_
  refine C_seq ?_
  refine C_seq ?_
  refine C_region rfl ?_
  refine T_pv rfl (pv_move rfl) ?_
  refine T_pv rfl (pv_len rfl el24) ?_
  refine T_pv rfl (pv_move rfl) ?_
  refine T_pv rfl (pv_len rfl el24) ?_
  refine T_pv rfl (pv_nei rfl rfl) ?_
  refine T_nil ?_
  refine N_then ?_
  refine C_cond rfl (fun hb_1 => ?_) (fun hb_1 => ?_)
  · -- decide ((a.length : Int) ≠ (b.length : Int)) = true
    have hx_2 := of_decide_eq_true hb_1
    refine C_seq ?_
    refine C_region rfl ?_
    refine T_pv rfl (pv_assign rfl) ?_
    refine T_nil ?_
    refine N_then ?_
    refine C_ret0 ?_
    refine R_then ?_
    -- ret 0: .bool false
    refine Q_ret (vs := [.bool false]) ⟨rfl, trivial⟩ (L' := []) [] trivial (by simp) (by decide) (⟨false, rfl, rfl, rfl, ?_⟩)
    · exact (eqL_len hx_2).symm
  · -- decide ((a.length : Int) ≠ (b.length : Int)) = false
    have hx_3 := of_decide_eq_false hb_1
    refine C_skip ?_
    refine N_then ?_
    refine C_seq ?_
    refine C_seq ?_
    refine C_region rfl ?_
    refine T_pv rfl (pv_move rfl) ?_
    refine T_pv rfl (pv_len rfl el24) ?_
    refine T_pv rfl (pv_move rfl) ?_
    refine T_nil ?_
    refine N_then ?_
    refine C_block ?_
    refine C_loop (fun (x : Int) => (S, [], [(0, .slice Aa a.length ca), (1, .slice Ab b.length cb), (6, .slice Aa a.length ca), (7, .int .i64 (a.length : Int)), (8, .slice Ab b.length cb), (9, .int .i64 (b.length : Int)), (10, .bool (decide ((a.length : Int) ≠ (b.length : Int)))), (11, .slice Aa a.length ca), (12, .int .i64 (a.length : Int)), (13, .int .i64 x)])) (fun (x : Int) => 0 ≤ x ∧ x ≤ a.length ∧ a.take (x).toNat = b.take (x).toNat) (fun (x : Int) => (a.length - x).toNat) (0) ⟨by omega, by omega, by simp⟩ rfl trivial ⟨rfl, rfl, rfl, rfl, rfl, rfl, rfl, rfl, rfl, rfl, trivial⟩ ?_
    rintro i ⟨q0, q1, q2⟩
    dsimp only
    refine C_seq ?_
    refine C_region rfl ?_
    refine T_pv rfl (pv_lss rfl rfl) ?_
    refine T_nil ?_
    refine N_then ?_
    refine C_seq ?_
    refine C_cond rfl (fun hb_5 => ?_) (fun hb_5 => ?_)
    · -- decide (i < (a.length : Int)) = true
      have hx_6 := of_decide_eq_true hb_5
      refine C_skip ?_
      refine N_then ?_
      refine C_seq ?_
      refine C_block ?_
      refine C_seq ?_
      refine C_region rfl ?_
      refine T_pv rfl (pv_move rfl) ?_
      refine T_pv rfl (pv_assign rfl) ?_
      refine T_nil ?_
      refine N_then ?_
      refine C_seq ?_
      refine C_drawS (S) [] 9 (by kernel_rfl) rfl (fun h0_7 => ?_)
      refine A_take (i := 0) rfl (by kernel_rfl) (held_le trivial (ImLe.refl _) h0_7) rfl (pv_move rfl) ?_
      refine A_take (i := 1) rfl (by kernel_rfl) (held_le trivial (ImLe.refl _) h0_7) rfl (pv_move rfl) ?_
      obtain ⟨us_8, hk_9, he_10⟩ := RdA.elt ha (i := i) (by omega) (by omega)
      obtain ⟨rfl, h_11⟩ := hk_9
      have hq_12 := InR.u8 h_11
      refine A_take (i := 2) rfl (by kernel_rfl) (held_le trivial (ImLe.refl _) h0_7) rfl (pv_idx ha rfl rfl el24 sz5 (by omega) (by omega)) ?_
      refine A_take (i := 3) rfl (by kernel_rfl) (held_le trivial (ImLe.refl _) h0_7) rfl (pv_load rfl ag5 ((he_10 _ _ (ImLe.refl _)).zero rfl)) ?_
      refine A_take (i := 4) rfl (by kernel_rfl) (held_le trivial (ImLe.refl _) h0_7) rfl (pv_move rfl) ?_
      refine A_take (i := 5) rfl (by kernel_rfl) (held_le trivial (ImLe.refl _) h0_7) rfl (pv_move rfl) ?_
      obtain ⟨us_13, hk_14, he_15⟩ := RdA.elt hb (i := i) (by omega) (by omega)
      obtain ⟨rfl, h_16⟩ := hk_14
      have hq_17 := InR.u8 h_16
      refine A_take (i := 6) rfl (by kernel_rfl) (held_le trivial (ImLe.refl _) h0_7) rfl (pv_idx hb rfl rfl el24 sz5 (by omega) (by omega)) ?_
      refine A_take (i := 7) rfl (by kernel_rfl) (held_le trivial (ImLe.refl _) h0_7) rfl (pv_load rfl ag5 ((he_15 _ _ (ImLe.refl _)).zero rfl)) ?_
      refine A_take (i := 8) rfl (by kernel_rfl) (held_le trivial (ImLe.refl _) h0_7) rfl (pv_nei rfl rfl) ?_
      refine A_done (by kernel_rfl) ?_
      refine N_then ?_
      refine C_cond rfl (fun hb_18 => ?_) (fun hb_18 => ?_)
      · -- decide ((a.getD (i).toNat default) ≠ (b.getD (i).toNat default)) = true
        have hx_19 := of_decide_eq_true hb_18
        refine C_seq ?_
        refine C_region rfl ?_
        refine T_pv rfl (pv_assign rfl) ?_
        refine T_nil ?_
        refine N_then ?_
        refine C_ret0 ?_
        refine R_block ?_
        refine R_then ?_
        refine R_loop ?_
        refine R_block ?_
        refine R_then ?_
        -- ret 1: .bool false
        refine Q_ret (vs := [.bool false]) ⟨rfl, trivial⟩ (L' := []) [] trivial (by simp) (by decide) (⟨false, rfl, rfl, rfl, ?_⟩)
        · exact (eqL_at (by simpa using hx_19)).symm
      · -- decide ((a.getD (i).toNat default) ≠ (b.getD (i).toNat default)) = false
        have hx_20 := of_decide_eq_false hb_18
        refine C_skip ?_
        refine N_block ?_
        refine N_then ?_
        refine C_region rfl ?_
        have hr_21 : InR .i64 (i + 1) := inR_i64 (by omega) (by omega)
        refine T_pv rfl (pv_add rfl rfl hr_21) ?_
        refine T_pv rfl (pv_move rfl) ?_
        refine T_nil ?_
        refine N_next (i + 1) ⟨by omega, by omega, eqL_next (by omega) (by omega) (by omega) q2 (by simpa using hx_20)⟩ (by first | omega | (dsimp only; omega)) rfl trivial ⟨rfl, rfl, rfl, rfl, rfl, rfl, rfl, rfl, rfl, rfl, trivial⟩
    · -- decide (i < (a.length : Int)) = false
      have hx_22 := of_decide_eq_false hb_5
      refine C_exit ?_
      refine X_then ?_
      refine X_loop ?_
      refine X_block ?_
      refine N_then ?_
      refine C_seq ?_
      refine C_region rfl ?_
      refine T_pv rfl (pv_assign rfl) ?_
      refine T_nil ?_
      refine N_then ?_
      refine C_ret0 ?_
      -- ret 2: .bool true
      refine Q_ret (vs := [.bool true]) ⟨rfl, trivial⟩ (L' := []) [] trivial (by simp) (by decide) (⟨true, rfl, rfl, rfl, ?_⟩)
      · exact (eqL_all (by omega) (by omega) q2).symm

set_option maxRecDepth 100000 in
theorem f_EqualI (S : Im) (Aa : Option Addr) (ca : Nat) (a : List Int) (ha : RdA (kInt .i64) S Aa ca a) (Ab : Option Addr) (cb : Nat) (b : List Int) (hb : RdA (kInt .i64) S Ab cb b) : Fn Try.prog 28 [.slice Aa a.length ca, .slice Ab b.length cb] S [] fun v S' L' => ∃ (r0 : Bool), v = .bool r0 ∧ S = S' ∧ L' = [] ∧ (decide (a = b)) = r0 := by
  have hb_a := ha.bd
  have hb_b := hb.bd
  refine Fn_intro 26 Try.func28 rfl rfl rfl fun w0 => ?_
  refine C_seq ?_
  refine C_region rfl ?_
  refine T_pv rfl (pv_assign rfl) ?_
  refine T_nil ?_
  refine N_then ?_
  refine C_seq ?_
  refine C_seq ?_
  refine C_region rfl ?_
  refine T_pv rfl (pv_move rfl) ?_
  refine T_pv rfl (pv_len rfl el30) ?_
  refine T_pv rfl (pv_move rfl) ?_
  refine T_pv rfl (pv_len rfl el30) ?_
  refine T_pv rfl (pv_nei rfl rfl) ?_
  refine T_nil ?_
  refine N_then ?_
  refine C_cond rfl (fun hb_1 => ?_) (fun hb_1 => ?_)
  · -- decide ((a.length : Int) ≠ (b.length : Int)) = true
    have hx_2 := of_decide_eq_true hb_1
    refine C_seq ?_
    refine C_region rfl ?_
    refine T_pv rfl (pv_assign rfl) ?_
    refine T_nil ?_
    refine N_then ?_
    refine C_ret0 ?_
    refine R_then ?_
    -- ret 0: .bool false
    refine Q_ret (vs := [.bool false]) ⟨rfl, trivial⟩ (L' := []) [] trivial (by simp) (by decide) (⟨false, rfl, rfl, rfl, ?_⟩)
    · exact (eqL_len hx_2).symm
  · -- decide ((a.length : Int) ≠ (b.length : Int)) = false
    have hx_3 := of_decide_eq_false hb_1
    refine C_skip ?_
    refine N_then ?_
    refine C_seq ?_
    refine C_seq ?_
    refine C_region rfl ?_
    refine T_pv rfl (pv_move rfl) ?_
    refine T_pv rfl (pv_len rfl el30) ?_
    refine T_pv rfl (pv_move rfl) ?_
    refine T_nil ?_
    refine N_then ?_
    refine C_block ?_
    refine C_loop (fun (x : Int) => (S, [], [(0, .slice Aa a.length ca), (1, .slice Ab b.length cb), (6, .slice Aa a.length ca), (7, .int .i64 (a.length : Int)), (8, .slice Ab b.length cb), (9, .int .i64 (b.length : Int)), (10, .bool (decide ((a.length : Int) ≠ (b.length : Int)))), (11, .slice Aa a.length ca), (12, .int .i64 (a.length : Int)), (13, .int .i64 x)])) (fun (x : Int) => 0 ≤ x ∧ x ≤ a.length ∧ a.take (x).toNat = b.take (x).toNat) (fun (x : Int) => (a.length - x).toNat) (0) ⟨by omega, by omega, by simp⟩ rfl trivial ⟨rfl, rfl, rfl, rfl, rfl, rfl, rfl, rfl, rfl, rfl, trivial⟩ ?_
    rintro i ⟨q0, q1, q2⟩
    dsimp only
    refine C_seq ?_
    refine C_region rfl ?_
    refine T_pv rfl (pv_lss rfl rfl) ?_
    refine T_nil ?_
    refine N_then ?_
    refine C_seq ?_
    refine C_cond rfl (fun hb_5 => ?_) (fun hb_5 => ?_)
    · -- decide (i < (a.length : Int)) = true
      have hx_6 := of_decide_eq_true hb_5
      refine C_skip ?_
      refine N_then ?_
      refine C_seq ?_
      refine C_block ?_
      refine C_seq ?_
      refine C_region rfl ?_
      refine T_pv rfl (pv_move rfl) ?_
      refine T_pv rfl (pv_assign rfl) ?_
      refine T_nil ?_
      refine N_then ?_
      refine C_seq ?_
      refine C_drawS (S) [] 9 (by kernel_rfl) rfl (fun h0_7 => ?_)
      refine A_take (i := 0) rfl (by kernel_rfl) (held_le trivial (ImLe.refl _) h0_7) rfl (pv_move rfl) ?_
      refine A_take (i := 1) rfl (by kernel_rfl) (held_le trivial (ImLe.refl _) h0_7) rfl (pv_move rfl) ?_
      obtain ⟨us_8, hk_9, he_10⟩ := RdA.elt ha (i := i) (by omega) (by omega)
      obtain ⟨rfl, h_11⟩ := hk_9
      have hq_12 := InR.i64 h_11
      refine A_take (i := 2) rfl (by kernel_rfl) (held_le trivial (ImLe.refl _) h0_7) rfl (pv_idx ha rfl rfl el30 sz3 (by omega) (by omega)) ?_
      refine A_take (i := 3) rfl (by kernel_rfl) (held_le trivial (ImLe.refl _) h0_7) rfl (pv_load rfl ag3 ((he_10 _ _ (ImLe.refl _)).zero rfl)) ?_
      refine A_take (i := 4) rfl (by kernel_rfl) (held_le trivial (ImLe.refl _) h0_7) rfl (pv_move rfl) ?_
      refine A_take (i := 5) rfl (by kernel_rfl) (held_le trivial (ImLe.refl _) h0_7) rfl (pv_move rfl) ?_
      obtain ⟨us_13, hk_14, he_15⟩ := RdA.elt hb (i := i) (by omega) (by omega)
      obtain ⟨rfl, h_16⟩ := hk_14
      have hq_17 := InR.i64 h_16
      refine A_take (i := 6) rfl (by kernel_rfl) (held_le trivial (ImLe.refl _) h0_7) rfl (pv_idx hb rfl rfl el30 sz3 (by omega) (by omega)) ?_
      refine A_take (i := 7) rfl (by kernel_rfl) (held_le trivial (ImLe.refl _) h0_7) rfl (pv_load rfl ag3 ((he_15 _ _ (ImLe.refl _)).zero rfl)) ?_
      refine A_take (i := 8) rfl (by kernel_rfl) (held_le trivial (ImLe.refl _) h0_7) rfl (pv_nei rfl rfl) ?_
      refine A_done (by kernel_rfl) ?_
      refine N_then ?_
      refine C_cond rfl (fun hb_18 => ?_) (fun hb_18 => ?_)
      · -- decide ((a.getD (i).toNat default) ≠ (b.getD (i).toNat default)) = true
        have hx_19 := of_decide_eq_true hb_18
        refine C_seq ?_
        refine C_region rfl ?_
        refine T_pv rfl (pv_assign rfl) ?_
        refine T_nil ?_
        refine N_then ?_
        refine C_ret0 ?_
        refine R_block ?_
        refine R_then ?_
        refine R_loop ?_
        refine R_block ?_
        refine R_then ?_
        -- ret 1: .bool false
        refine Q_ret (vs := [.bool false]) ⟨rfl, trivial⟩ (L' := []) [] trivial (by simp) (by decide) (⟨false, rfl, rfl, rfl, ?_⟩)
        · exact (eqL_at (by simpa using hx_19)).symm
      · -- decide ((a.getD (i).toNat default) ≠ (b.getD (i).toNat default)) = false
        have hx_20 := of_decide_eq_false hb_18
        refine C_skip ?_
        refine N_block ?_
        refine N_then ?_
        refine C_region rfl ?_
        have hr_21 : InR .i64 (i + 1) := inR_i64 (by omega) (by omega)
        refine T_pv rfl (pv_add rfl rfl hr_21) ?_
        refine T_pv rfl (pv_move rfl) ?_
        refine T_nil ?_
        refine N_next (i + 1) ⟨by omega, by omega, eqL_next (by omega) (by omega) (by omega) q2 (by simpa using hx_20)⟩ (by first | omega | (dsimp only; omega)) rfl trivial ⟨rfl, rfl, rfl, rfl, rfl, rfl, rfl, rfl, rfl, rfl, trivial⟩
    · -- decide (i < (a.length : Int)) = false
      have hx_22 := of_decide_eq_false hb_5
      refine C_exit ?_
      refine X_then ?_
      refine X_loop ?_
      refine X_block ?_
      refine N_then ?_
      refine C_seq ?_
      refine C_region rfl ?_
      refine T_pv rfl (pv_assign rfl) ?_
      refine T_nil ?_
      refine N_then ?_
      refine C_ret0 ?_
      -- ret 2: .bool true
      refine Q_ret (vs := [.bool true]) ⟨rfl, trivial⟩ (L' := []) [] trivial (by simp) (by decide) (⟨true, rfl, rfl, rfl, ?_⟩)
      · exact (eqL_all (by omega) (by omega) q2).symm

set_option maxRecDepth 100000 in
theorem f_Ints (S : Im) (Aa : Option Addr) (ca : Nat) (a : List Int) (ha : RdA (kInt .i64) S Aa ca a) (Ab : Option Addr) (cb : Nat) (b : List Int) (hb : RdA (kInt .i64) S Ab cb b) : Fn Try.prog 37 [.slice Aa a.length ca, .slice Ab b.length cb] S [] fun v S' L' => ∃ (r0 : Bool), v = .bool r0 ∧ S = S' ∧ L' = [] ∧ (decide (a = b)) = r0 := by
  have hb_a := ha.bd
  have hb_b := hb.bd
  refine Fn_intro 26 Try.func37 rfl rfl rfl fun w0 => ?_
  refine C_seq ?_
  refine C_region rfl ?_
  refine T_pv rfl (pv_assign rfl) ?_
  refine T_nil ?_
  refine N_then ?_
  refine C_seq ?_
  refine C_seq ?_
  refine C_region rfl ?_
  refine T_pv rfl (pv_move rfl) ?_
  refine T_pv rfl (pv_len rfl el30) ?_
  refine T_pv rfl (pv_move rfl) ?_
  refine T_pv rfl (pv_len rfl el30) ?_
  refine T_pv rfl (pv_nei rfl rfl) ?_
  refine T_nil ?_
  refine N_then ?_
  refine C_cond rfl (fun hb_1 => ?_) (fun hb_1 => ?_)
  · -- decide ((a.length : Int) ≠ (b.length : Int)) = true
    have hx_2 := of_decide_eq_true hb_1
    refine C_seq ?_
    refine C_region rfl ?_
    refine T_pv rfl (pv_assign rfl) ?_
    refine T_nil ?_
    refine N_then ?_
    refine C_ret0 ?_
    refine R_then ?_
    -- ret 0: .bool false
    refine Q_ret (vs := [.bool false]) ⟨rfl, trivial⟩ (L' := []) [] trivial (by simp) (by decide) (⟨false, rfl, rfl, rfl, ?_⟩)
    · exact (eqL_len hx_2).symm
  · -- decide ((a.length : Int) ≠ (b.length : Int)) = false
    have hx_3 := of_decide_eq_false hb_1
    refine C_skip ?_
    refine N_then ?_
    refine C_seq ?_
    refine C_seq ?_
    refine C_region rfl ?_
    refine T_pv rfl (pv_assign rfl) ?_
    refine T_nil ?_
    refine N_then ?_
    refine C_block ?_
    refine C_loop (fun (x : Int) => (S, [], [(0, .slice Aa a.length ca), (1, .slice Ab b.length cb), (6, .slice Aa a.length ca), (7, .int .i64 (a.length : Int)), (8, .slice Ab b.length cb), (9, .int .i64 (b.length : Int)), (10, .bool (decide ((a.length : Int) ≠ (b.length : Int)))), (5, .int .i64 x)])) (fun (x : Int) => 0 ≤ x ∧ x ≤ a.length ∧ a.take (x).toNat = b.take (x).toNat) (fun (x : Int) => (a.length - x).toNat) (0) ⟨by omega, by omega, by simp⟩ rfl trivial ⟨rfl, rfl, rfl, rfl, rfl, rfl, rfl, rfl, trivial⟩ ?_
    rintro i ⟨q0, q1, q2⟩
    dsimp only
    refine C_seq ?_
    refine C_seq ?_
    refine C_region rfl ?_
    refine T_pv rfl (pv_move rfl) ?_
    refine T_pv rfl (pv_move rfl) ?_
    refine T_pv rfl (pv_len rfl el30) ?_
    refine T_pv rfl (pv_lss rfl rfl) ?_
    refine T_nil ?_
    refine N_then ?_
    refine C_cond rfl (fun hb_5 => ?_) (fun hb_5 => ?_)
    · -- decide (i < (a.length : Int)) = true
      have hx_6 := of_decide_eq_true hb_5
      refine C_skip ?_
      refine N_then ?_
      refine C_seq ?_
      refine C_block ?_
      refine C_seq ?_
      refine C_drawS (S) [] 9 (by kernel_rfl) rfl (fun h0_7 => ?_)
      refine A_take (i := 0) rfl (by kernel_rfl) (held_le trivial (ImLe.refl _) h0_7) rfl (pv_move rfl) ?_
      refine A_take (i := 1) rfl (by kernel_rfl) (held_le trivial (ImLe.refl _) h0_7) rfl (pv_move rfl) ?_
      obtain ⟨us_8, hk_9, he_10⟩ := RdA.elt ha (i := i) (by omega) (by omega)
      obtain ⟨rfl, h_11⟩ := hk_9
      have hq_12 := InR.i64 h_11
      refine A_take (i := 2) rfl (by kernel_rfl) (held_le trivial (ImLe.refl _) h0_7) rfl (pv_idx ha rfl rfl el30 sz3 (by omega) (by omega)) ?_
      refine A_take (i := 3) rfl (by kernel_rfl) (held_le trivial (ImLe.refl _) h0_7) rfl (pv_load rfl ag3 ((he_10 _ _ (ImLe.refl _)).zero rfl)) ?_
      refine A_take (i := 4) rfl (by kernel_rfl) (held_le trivial (ImLe.refl _) h0_7) rfl (pv_move rfl) ?_
      refine A_take (i := 5) rfl (by kernel_rfl) (held_le trivial (ImLe.refl _) h0_7) rfl (pv_move rfl) ?_
      obtain ⟨us_13, hk_14, he_15⟩ := RdA.elt hb (i := i) (by omega) (by omega)
      obtain ⟨rfl, h_16⟩ := hk_14
      have hq_17 := InR.i64 h_16
      refine A_take (i := 6) rfl (by kernel_rfl) (held_le trivial (ImLe.refl _) h0_7) rfl (pv_idx hb rfl rfl el30 sz3 (by omega) (by omega)) ?_
      refine A_take (i := 7) rfl (by kernel_rfl) (held_le trivial (ImLe.refl _) h0_7) rfl (pv_load rfl ag3 ((he_15 _ _ (ImLe.refl _)).zero rfl)) ?_
      refine A_take (i := 8) rfl (by kernel_rfl) (held_le trivial (ImLe.refl _) h0_7) rfl (pv_nei rfl rfl) ?_
      refine A_done (by kernel_rfl) ?_
      refine N_then ?_
      refine C_cond rfl (fun hb_18 => ?_) (fun hb_18 => ?_)
      · -- decide ((a.getD (i).toNat default) ≠ (b.getD (i).toNat default)) = true
        have hx_19 := of_decide_eq_true hb_18
        refine C_seq ?_
        refine C_region rfl ?_
        refine T_pv rfl (pv_assign rfl) ?_
        refine T_nil ?_
        refine N_then ?_
        refine C_ret0 ?_
        refine R_block ?_
        refine R_then ?_
        refine R_loop ?_
        refine R_block ?_
        refine R_then ?_
        -- ret 1: .bool false
        refine Q_ret (vs := [.bool false]) ⟨rfl, trivial⟩ (L' := []) [] trivial (by simp) (by decide) (⟨false, rfl, rfl, rfl, ?_⟩)
        · exact (eqL_at (by simpa using hx_19)).symm
      · -- decide ((a.getD (i).toNat default) ≠ (b.getD (i).toNat default)) = false
        have hx_20 := of_decide_eq_false hb_18
        refine C_skip ?_
        refine N_block ?_
        refine N_then ?_
        refine C_region rfl ?_
        refine T_pv rfl (pv_move rfl) ?_
        have hr_21 : InR .i64 (i + 1) := inR_i64 (by omega) (by omega)
        refine T_pv rfl (pv_add rfl rfl hr_21) ?_
        refine T_pv rfl (pv_assign rfl) ?_
        refine T_nil ?_
        refine N_next (i + 1) ⟨by omega, by omega, eqL_next (by omega) (by omega) (by omega) q2 (by simpa using hx_20)⟩ (by first | omega | (dsimp only; omega)) rfl trivial ⟨rfl, rfl, rfl, rfl, rfl, rfl, rfl, rfl, trivial⟩
    · -- decide (i < (a.length : Int)) = false
      have hx_22 := of_decide_eq_false hb_5
      refine C_exit ?_
      refine X_then ?_
      refine X_loop ?_
      refine X_block ?_
      refine N_then ?_
      refine C_seq ?_
      refine C_region rfl ?_
      refine T_pv rfl (pv_assign rfl) ?_
      refine T_nil ?_
      refine N_then ?_
      refine C_ret0 ?_
      -- ret 2: .bool true
      refine Q_ret (vs := [.bool true]) ⟨rfl, trivial⟩ (L' := []) [] trivial (by simp) (by decide) (⟨true, rfl, rfl, rfl, ?_⟩)
      · exact (eqL_all (by omega) (by omega) q2).symm

set_option maxRecDepth 100000 in
theorem f_EqualBo (S : Im) (Aa : Option Addr) (ca : Nat) (a : List Bool) (ha : RdA kBool S Aa ca a) (Ab : Option Addr) (cb : Nat) (b : List Bool) (hb : RdA kBool S Ab cb b) : Fn Try.prog 19 [.slice Aa a.length ca, .slice Ab b.length cb] S [] fun v S' L' => ∃ (r0 : Bool), v = .bool r0 ∧ S = S' ∧ L' = [] ∧ (decide (a = b)) = r0 := by
  have hb_a := ha.bd
  have hb_b := hb.bd
  refine Fn_intro 26 Try.func19 rfl rfl rfl fun w0 => ?_
  refine C_seq ?_
  refine C_region rfl ?_
  refine T_pv rfl (pv_assign rfl) ?_
  refine T_nil ?_
  refine N_then ?_
  refine C_seq ?_
  refine C_seq ?_
  refine C_region rfl ?_
  refine T_pv rfl (pv_move rfl) ?_
  refine T_pv rfl (pv_len rfl el38) ?_
  refine T_pv rfl (pv_move rfl) ?_
  refine T_pv rfl (pv_len rfl el38) ?_
  refine T_pv rfl (pv_nei rfl rfl) ?_
  refine T_nil ?_
  refine N_then ?_
  refine C_cond rfl (fun hb_1 => ?_) (fun hb_1 => ?_)
  · -- decide ((a.length : Int) ≠ (b.length : Int)) = true
    have hx_2 := of_decide_eq_true hb_1
    refine C_seq ?_
    refine C_region rfl ?_
    refine T_pv rfl (pv_assign rfl) ?_
    refine T_nil ?_
    refine N_then ?_
    refine C_ret0 ?_
    refine R_then ?_
    -- ret 0: .bool false
    refine Q_ret (vs := [.bool false]) ⟨rfl, trivial⟩ (L' := []) [] trivial (by simp) (by decide) (⟨false, rfl, rfl, rfl, ?_⟩)
    · exact (eqL_len hx_2).symm
  · -- decide ((a.length : Int) ≠ (b.length : Int)) = false
    have hx_3 := of_decide_eq_false hb_1
    refine C_skip ?_
    refine N_then ?_
    refine C_seq ?_
    refine C_seq ?_
    refine C_region rfl ?_
    refine T_pv rfl (pv_move rfl) ?_
    refine T_pv rfl (pv_len rfl el38) ?_
    refine T_pv rfl (pv_move rfl) ?_
    refine T_nil ?_
    refine N_then ?_
    refine C_block ?_
    refine C_loop (fun (x : Int) => (S, [], [(0, .slice Aa a.length ca), (1, .slice Ab b.length cb), (6, .slice Aa a.length ca), (7, .int .i64 (a.length : Int)), (8, .slice Ab b.length cb), (9, .int .i64 (b.length : Int)), (10, .bool (decide ((a.length : Int) ≠ (b.length : Int)))), (11, .slice Aa a.length ca), (12, .int .i64 (a.length : Int)), (13, .int .i64 x)])) (fun (x : Int) => 0 ≤ x ∧ x ≤ a.length ∧ a.take (x).toNat = b.take (x).toNat) (fun (x : Int) => (a.length - x).toNat) (0) ⟨by omega, by omega, by simp⟩ rfl trivial ⟨rfl, rfl, rfl, rfl, rfl, rfl, rfl, rfl, rfl, rfl, trivial⟩ ?_
    rintro i ⟨q0, q1, q2⟩
    dsimp only
    refine C_seq ?_
    refine C_region rfl ?_
    refine T_pv rfl (pv_lss rfl rfl) ?_
    refine T_nil ?_
    refine N_then ?_
    refine C_seq ?_
    refine C_cond rfl (fun hb_5 => ?_) (fun hb_5 => ?_)
    · -- decide (i < (a.length : Int)) = true
      have hx_6 := of_decide_eq_true hb_5
      refine C_skip ?_
      refine N_then ?_
      refine C_seq ?_
      refine C_block ?_
      refine C_seq ?_
      refine C_region rfl ?_
      refine T_pv rfl (pv_move rfl) ?_
      refine T_pv rfl (pv_assign rfl) ?_
      refine T_nil ?_
      refine N_then ?_
      refine C_seq ?_
      refine C_drawS (S) [] 9 (by kernel_rfl) rfl (fun h0_7 => ?_)
      refine A_take (i := 0) rfl (by kernel_rfl) (held_le trivial (ImLe.refl _) h0_7) rfl (pv_move rfl) ?_
      refine A_take (i := 1) rfl (by kernel_rfl) (held_le trivial (ImLe.refl _) h0_7) rfl (pv_move rfl) ?_
      obtain ⟨us_8, hk_9, he_10⟩ := RdA.elt ha (i := i) (by omega) (by omega)
      obtain rfl := hk_9
      refine A_take (i := 2) rfl (by kernel_rfl) (held_le trivial (ImLe.refl _) h0_7) rfl (pv_idx ha rfl rfl el38 sz4 (by omega) (by omega)) ?_
      refine A_take (i := 3) rfl (by kernel_rfl) (held_le trivial (ImLe.refl _) h0_7) rfl (pv_load rfl ag4 ((he_10 _ _ (ImLe.refl _)).zero rfl)) ?_
      refine A_take (i := 4) rfl (by kernel_rfl) (held_le trivial (ImLe.refl _) h0_7) rfl (pv_move rfl) ?_
      refine A_take (i := 5) rfl (by kernel_rfl) (held_le trivial (ImLe.refl _) h0_7) rfl (pv_move rfl) ?_
      obtain ⟨us_11, hk_12, he_13⟩ := RdA.elt hb (i := i) (by omega) (by omega)
      obtain rfl := hk_12
      refine A_take (i := 6) rfl (by kernel_rfl) (held_le trivial (ImLe.refl _) h0_7) rfl (pv_idx hb rfl rfl el38 sz4 (by omega) (by omega)) ?_
      refine A_take (i := 7) rfl (by kernel_rfl) (held_le trivial (ImLe.refl _) h0_7) rfl (pv_load rfl ag4 ((he_13 _ _ (ImLe.refl _)).zero rfl)) ?_
      refine A_take (i := 8) rfl (by kernel_rfl) (held_le trivial (ImLe.refl _) h0_7) rfl (pv_neqbd rfl rfl un4) ?_
      refine A_done (by kernel_rfl) ?_
      refine N_then ?_
      refine C_cond rfl (fun hb_14 => ?_) (fun hb_14 => ?_)
      · -- decide ((a.getD (i).toNat default) ≠ (b.getD (i).toNat default)) = true
        have hx_15 := of_decide_eq_true hb_14
        refine C_seq ?_
        refine C_region rfl ?_
        refine T_pv rfl (pv_assign rfl) ?_
        refine T_nil ?_
        refine N_then ?_
        refine C_ret0 ?_
        refine R_block ?_
        refine R_then ?_
        refine R_loop ?_
        refine R_block ?_
        refine R_then ?_
        -- ret 1: .bool false
        refine Q_ret (vs := [.bool false]) ⟨rfl, trivial⟩ (L' := []) [] trivial (by simp) (by decide) (⟨false, rfl, rfl, rfl, ?_⟩)
        · exact (eqL_at (by simpa using hx_15)).symm
      · -- decide ((a.getD (i).toNat default) ≠ (b.getD (i).toNat default)) = false
        have hx_16 := of_decide_eq_false hb_14
        refine C_skip ?_
        refine N_block ?_
        refine N_then ?_
        refine C_region rfl ?_
        have hr_17 : InR .i64 (i + 1) := inR_i64 (by omega) (by omega)
        refine T_pv rfl (pv_add rfl rfl hr_17) ?_
        refine T_pv rfl (pv_move rfl) ?_
        refine T_nil ?_
        refine N_next (i + 1) ⟨by omega, by omega, eqL_next (by omega) (by omega) (by omega) q2 (by simpa using hx_16)⟩ (by first | omega | (dsimp only; omega)) rfl trivial ⟨rfl, rfl, rfl, rfl, rfl, rfl, rfl, rfl, rfl, rfl, trivial⟩
    · -- decide (i < (a.length : Int)) = false
      have hx_18 := of_decide_eq_false hb_5
      refine C_exit ?_
      refine X_then ?_
      refine X_loop ?_
      refine X_block ?_
      refine N_then ?_
      refine C_seq ?_
      refine C_region rfl ?_
      refine T_pv rfl (pv_assign rfl) ?_
      refine T_nil ?_
      refine N_then ?_
      refine C_ret0 ?_
      -- ret 2: .bool true
      refine Q_ret (vs := [.bool true]) ⟨rfl, trivial⟩ (L' := []) [] trivial (by simp) (by decide) (⟨true, rfl, rfl, rfl, ?_⟩)
      · exact (eqL_all (by omega) (by omega) q2).symm

set_option maxRecDepth 100000 in
theorem f_EqualS (S : Im) (Aa : Option Addr) (ca : Nat) (a : List GSection) (ha : RdA kGSection S Aa ca a) (Ab : Option Addr) (cb : Nat) (b : List GSection) (hb : RdA kGSection S Ab cb b) : Fn Try.prog 30 [.slice Aa a.length ca, .slice Ab b.length cb] S [] fun v S' L' => ∃ (r0 : Bool), v = .bool r0 ∧ S = S' ∧ L' = [] ∧ (decide (a = b)) = r0 := by
  have hb_a := ha.bd
  have hb_b := hb.bd
  refine Fn_intro 26 Try.func30 rfl rfl rfl fun w0 => ?_
  refine C_seq ?_
  refine C_region rfl ?_
  refine T_pv rfl (pv_assign rfl) ?_
  refine T_nil ?_
  refine N_then ?_
  refine C_seq ?_
  refine C_seq ?_
  refine C_region rfl ?_
  refine T_pv rfl (pv_move rfl) ?_
  refine T_pv rfl (pv_len rfl el50) ?_
  refine T_pv rfl (pv_move rfl) ?_
  refine T_pv rfl (pv_len rfl el50) ?_
  refine T_pv rfl (pv_nei rfl rfl) ?_
  refine T_nil ?_
  refine N_then ?_
  refine C_cond rfl (fun hb_1 => ?_) (fun hb_1 => ?_)
  · -- decide ((a.length : Int) ≠ (b.length : Int)) = true
    have hx_2 := of_decide_eq_true hb_1
    refine C_seq ?_
    refine C_region rfl ?_
    refine T_pv rfl (pv_assign rfl) ?_
    refine T_nil ?_
    refine N_then ?_
    refine C_ret0 ?_
    refine R_then ?_
    -- ret 0: .bool false
    refine Q_ret (vs := [.bool false]) ⟨rfl, trivial⟩ (L' := []) [] trivial (by simp) (by decide) (⟨false, rfl, rfl, rfl, ?_⟩)
    · exact (eqL_len hx_2).symm
  · -- decide ((a.length : Int) ≠ (b.length : Int)) = false
    have hx_3 := of_decide_eq_false hb_1
    refine C_skip ?_
    refine N_then ?_
    refine C_seq ?_
    refine C_seq ?_
    refine C_region rfl ?_
    refine T_pv rfl (pv_move rfl) ?_
    refine T_pv rfl (pv_len rfl el50) ?_
    refine T_pv rfl (pv_move rfl) ?_
    refine T_nil ?_
    refine N_then ?_
    refine C_block ?_
    refine C_loop (fun (x : Int) => (S, [], [(0, .slice Aa a.length ca), (1, .slice Ab b.length cb), (6, .slice Aa a.length ca), (7, .int .i64 (a.length : Int)), (8, .slice Ab b.length cb), (9, .int .i64 (b.length : Int)), (10, .bool (decide ((a.length : Int) ≠ (b.length : Int)))), (11, .slice Aa a.length ca), (12, .int .i64 (a.length : Int)), (13, .int .i64 x)])) (fun (x : Int) => 0 ≤ x ∧ x ≤ a.length ∧ a.take (x).toNat = b.take (x).toNat) (fun (x : Int) => (a.length - x).toNat) (0) ⟨by omega, by omega, by simp⟩ rfl trivial ⟨rfl, rfl, rfl, rfl, rfl, rfl, rfl, rfl, rfl, rfl, trivial⟩ ?_
    rintro i ⟨q0, q1, q2⟩
    dsimp only
    refine C_seq ?_
    refine C_region rfl ?_
    refine T_pv rfl (pv_lss rfl rfl) ?_
    refine T_nil ?_
    refine N_then ?_
    refine C_seq ?_
    refine C_cond rfl (fun hb_5 => ?_) (fun hb_5 => ?_)
    · -- decide (i < (a.length : Int)) = true
      have hx_6 := of_decide_eq_true hb_5
      refine C_skip ?_
      refine N_then ?_
      refine C_seq ?_
      refine C_block ?_
      refine C_seq ?_
      refine C_region rfl ?_
      refine T_pv rfl (pv_move rfl) ?_
      refine T_pv rfl (pv_assign rfl) ?_
      refine T_nil ?_
      refine N_then ?_
      refine C_seq ?_
      refine C_drawS (S) [] 9 (by kernel_rfl) rfl (fun h0_7 => ?_)
      refine A_take (i := 0) rfl (by kernel_rfl) (held_le trivial (ImLe.refl _) h0_7) rfl (pv_move rfl) ?_
      refine A_take (i := 1) rfl (by kernel_rfl) (held_le trivial (ImLe.refl _) h0_7) rfl (pv_move rfl) ?_
      obtain ⟨us_8, hk_9, he_10⟩ := RdA.elt ha (i := i) (by omega) (by omega)
      obtain ⟨rfl, h_11, h_12⟩ := hk_9
      have hq_13 := InR.i64 h_11
      have hq_14 := InR.i64 h_12
      refine A_take (i := 2) rfl (by kernel_rfl) (held_le trivial (ImLe.refl _) h0_7) rfl (pv_idx ha rfl rfl el50 sz57 (by omega) (by omega)) ?_
      refine A_take (i := 3) rfl (by kernel_rfl) (held_le trivial (ImLe.refl _) h0_7) rfl (pv_load_aggE (cs := [.int .i64 ((a.getD (i).toNat default).book), .int .i64 ((a.getD (i).toNat default).len)]) rfl ag57 sz57 (he_10 _ _ (ImLe.refl _))) ?_
      refine A_take (i := 4) rfl (by kernel_rfl) (held_le trivial (ImLe.refl _) h0_7) rfl (pv_move rfl) ?_
      refine A_take (i := 5) rfl (by kernel_rfl) (held_le trivial (ImLe.refl _) h0_7) rfl (pv_move rfl) ?_
      obtain ⟨us_15, hk_16, he_17⟩ := RdA.elt hb (i := i) (by omega) (by omega)
      obtain ⟨rfl, h_18, h_19⟩ := hk_16
      have hq_20 := InR.i64 h_18
      have hq_21 := InR.i64 h_19
      refine A_take (i := 6) rfl (by kernel_rfl) (held_le trivial (ImLe.refl _) h0_7) rfl (pv_idx hb rfl rfl el50 sz57 (by omega) (by omega)) ?_
      refine A_take (i := 7) rfl (by kernel_rfl) (held_le trivial (ImLe.refl _) h0_7) rfl (pv_load_aggE (cs := [.int .i64 ((b.getD (i).toNat default).book), .int .i64 ((b.getD (i).toNat default).len)]) rfl ag57 sz57 (he_17 _ _ (ImLe.refl _))) ?_
      refine A_take (i := 8) rfl (by kernel_rfl) (held_le trivial (ImLe.refl _) h0_7) rfl (pv_ne2 rfl rfl tw57) ?_
      refine A_done (by kernel_rfl) ?_
      refine N_then ?_
      refine C_cond rfl (fun hb_22 => ?_) (fun hb_22 => ?_)
      · -- decide ¬ (((a.getD (i).toNat default).book) = ((b.getD (i).toNat default).book) ∧ ((a.getD (i).toNat default).len) = ((b.getD (i).toNat default).len)) = true
        have hx_23 := of_decide_eq_true hb_22
        refine C_seq ?_
        refine C_region rfl ?_
        refine T_pv rfl (pv_assign rfl) ?_
        refine T_nil ?_
        refine N_then ?_
        refine C_ret0 ?_
        refine R_block ?_
        refine R_then ?_
        refine R_loop ?_
        refine R_block ?_
        refine R_then ?_
        -- ret 1: .bool false
        refine Q_ret (vs := [.bool false]) ⟨rfl, trivial⟩ (L' := []) [] trivial (by simp) (by decide) (⟨false, rfl, rfl, rfl, ?_⟩)
        · exact (eqL_at (by rw [GSection.eq_iff]; simpa using hx_23)).symm
      · -- decide ¬ (((a.getD (i).toNat default).book) = ((b.getD (i).toNat default).book) ∧ ((a.getD (i).toNat default).len) = ((b.getD (i).toNat default).len)) = false
        have hx_24 := of_decide_eq_false hb_22
        refine C_skip ?_
        refine N_block ?_
        refine N_then ?_
        refine C_region rfl ?_
        have hr_25 : InR .i64 (i + 1) := inR_i64 (by omega) (by omega)
        refine T_pv rfl (pv_add rfl rfl hr_25) ?_
        refine T_pv rfl (pv_move rfl) ?_
        refine T_nil ?_
        refine N_next (i + 1) ⟨by omega, by omega, eqL_next (by omega) (by omega) (by omega) q2 (by rw [GSection.eq_iff]; simpa using hx_24)⟩ (by first | omega | (dsimp only; omega)) rfl trivial ⟨rfl, rfl, rfl, rfl, rfl, rfl, rfl, rfl, rfl, rfl, trivial⟩
    · -- decide (i < (a.length : Int)) = false
      have hx_26 := of_decide_eq_false hb_5
      refine C_exit ?_
      refine X_then ?_
      refine X_loop ?_
      refine X_block ?_
      refine N_then ?_
      refine C_seq ?_
      refine C_region rfl ?_
      refine T_pv rfl (pv_assign rfl) ?_
      refine T_nil ?_
      refine N_then ?_
      refine C_ret0 ?_
      -- ret 2: .bool true
      refine Q_ret (vs := [.bool true]) ⟨rfl, trivial⟩ (L' := []) [] trivial (by simp) (by decide) (⟨true, rfl, rfl, rfl, ?_⟩)
      · exact (eqL_all (by omega) (by omega) q2).symm

set_option maxRecDepth 100000 in
theorem f_info_Same (S : Im) (a : GInfo) (ha0 : InR .u8 a.seq) (ha1 : InR .u8 a.shape) (ha2 : InR .i64 a.max) (Aa3 : Option Addr) (ca3 : Nat) (ha3 : RdA (kInt .i64) S Aa3 ca3 a.groups) (b : GInfo) (hb0 : InR .u8 b.seq) (hb1 : InR .u8 b.shape) (hb2 : InR .i64 b.max) (Ab3 : Option Addr) (cb3 : Nat) (hb3 : RdA (kInt .i64) S Ab3 cb3 b.groups) : Fn Try.prog 27 [.agg #[.int .u8 a.seq, .int .u8 a.shape, .int .i64 a.max, .slice Aa3 a.groups.length ca3], .agg #[.int .u8 b.seq, .int .u8 b.shape, .int .i64 b.max, .slice Ab3 b.groups.length cb3]] S [] fun v S' L' => ∃ (r0 : Bool), v = .bool r0 ∧ S = S' ∧ L' = [] ∧ (decide (a = b)) = r0 := by
  have hb_a0 := InR.u8 ha0
  have hb_a1 := InR.u8 ha1
  have hb_a2 := InR.i64 ha2
  have hb_a3 := ha3.bd
  have hb_b0 := InR.u8 hb0
  have hb_b1 := InR.u8 hb1
  have hb_b2 := InR.i64 hb2
  have hb_b3 := hb3.bd
  refine Fn_intro 31 Try.func27 rfl rfl rfl fun w0 => ?_
  refine C_seq ?_
  refine C_region rfl ?_
  refine T_cons (op_box (cs := [.int .u8 a.seq, .int .u8 a.shape, .int .i64 a.max, .slice Aa3 a.groups.length ca3]) (lt_of rfl) 101 rfl rfl fun g_1 => ?_)
  refine T_cons (op_box (cs := [.int .u8 b.seq, .int .u8 b.shape, .int .i64 b.max, .slice Ab3 b.groups.length cb3]) (lt_of rfl) 102 rfl rfl fun g_2 => ?_)
  refine T_pv rfl (pv_assign rfl) ?_
  refine T_nil ?_
  refine N_then ?_
  refine C_seq ?_
  refine C_region rfl ?_
  refine T_pv rfl (pv_fieldAddr rfl fl_32_0) ?_
  refine T_pv rfl (pv_load rfl ag5 (Cell.blk 101 rfl rfl)) ?_
  refine T_pv rfl (pv_fieldAddr rfl fl_32_0) ?_
  refine T_pv rfl (pv_load rfl ag5 (Cell.blk 102 rfl rfl)) ?_
  refine T_pv rfl (pv_eqi rfl rfl) ?_
  refine T_pv rfl (pv_move rfl) ?_
  refine T_gs (dj := 10) rfl (fun hb_3 => ?_) (fun hb_3 => ?_)
  · -- decide (a.seq = b.seq) = true
    have hx_4 := of_decide_eq_true hb_3
    refine T_gy rfl rfl hb_3 rfl (pv_fieldAddr rfl fl_32_1) ?_
    refine T_gy rfl rfl hb_3 rfl (pv_load rfl ag5 (Cell.blk 101 rfl rfl)) ?_
    refine T_gy rfl rfl hb_3 rfl (pv_fieldAddr rfl fl_32_1) ?_
    refine T_gy rfl rfl hb_3 rfl (pv_load rfl ag5 (Cell.blk 102 rfl rfl)) ?_
    refine T_gy rfl rfl hb_3 rfl (pv_eqi rfl rfl) ?_
    refine T_pv rfl (pv_pick_t rfl hb_3 rfl) ?_
    refine T_pv rfl (pv_move rfl) ?_
    refine T_gs (dj := 17) rfl (fun hb_5 => ?_) (fun hb_5 => ?_)
    · -- decide (a.shape = b.shape) = true
      have hx_6 := of_decide_eq_true hb_5
      refine T_gy rfl rfl hb_5 rfl (pv_fieldAddr rfl fl_32_2) ?_
      refine T_gy rfl rfl hb_5 rfl (pv_load rfl ag3 (Cell.blk 101 rfl rfl)) ?_
      refine T_gy rfl rfl hb_5 rfl (pv_fieldAddr rfl fl_32_2) ?_
      refine T_gy rfl rfl hb_5 rfl (pv_load rfl ag3 (Cell.blk 102 rfl rfl)) ?_
      refine T_gy rfl rfl hb_5 rfl (pv_eqi rfl rfl) ?_
      refine T_pv rfl (pv_pick_t rfl hb_5 rfl) ?_
      refine T_pv rfl (pv_move rfl) ?_
      refine T_gs (dj := 24) rfl (fun hb_7 => ?_) (fun hb_7 => ?_)
      · -- decide (a.max = b.max) = true
        have hx_8 := of_decide_eq_true hb_7
        refine T_gy rfl rfl hb_7 rfl (pv_fieldAddr rfl fl_32_3) ?_
        refine T_gy rfl rfl hb_7 rfl (pv_load rfl ag30 (Cell.blk 101 rfl rfl)) ?_
        refine T_gy rfl rfl hb_7 rfl (pv_fieldAddr rfl fl_32_3) ?_
        refine T_gy rfl rfl hb_7 rfl (pv_load rfl ag30 (Cell.blk 102 rfl rfl)) ?_
        refine T_gyo rfl rfl hb_7 (op_call (fun _ h => by cases h; exact lt_of rfl) rfl rfl rfl en28 (f_EqualI _ _ _ a.groups ha3 _ _ b.groups hb3) [] trivial (by simp) (by decide) ?_)
        rintro v_12 S_10 L_13 ⟨r_9, rfl, rfl, rfl, rfl⟩ hle_11
        refine ⟨rfl, ?_⟩
        refine T_pv rfl (pv_pick_t rfl hb_7 rfl) ?_
        refine T_pv rfl (pv_assign rfl) ?_
        refine T_nil ?_
        refine N_then ?_
        refine C_ret0 ?_
        -- ret 0: .bool (decide (a.groups = b.groups))
        refine Q_ret (vs := [.bool (decide (a.groups = b.groups))]) ⟨rfl, trivial⟩ (L' := []) [] trivial (by simp) (by decide) (⟨decide (a.groups = b.groups), rfl, rfl, rfl, ?_⟩)
        · simp [GInfo.eq_iff, hx_4, hx_6, hx_8]
      · -- decide (a.max = b.max) = false
        have hx_14 := of_decide_eq_false hb_7
        refine T_gn rfl rfl hb_7 rfl ?_
        refine T_gn rfl rfl hb_7 rfl ?_
        refine T_gn rfl rfl hb_7 rfl ?_
        refine T_gn rfl rfl hb_7 rfl ?_
        refine T_gn rfl rfl hb_7 rfl ?_
        refine T_pv rfl (pv_pick_f rfl hb_7 rfl) ?_
        refine T_pv rfl (pv_assign rfl) ?_
        refine T_nil ?_
        refine N_then ?_
        refine C_ret0 ?_
        -- ret 1: .bool false
        refine Q_ret (vs := [.bool false]) ⟨rfl, trivial⟩ (L' := []) [] trivial (by simp) (by decide) (⟨false, rfl, rfl, rfl, ?_⟩)
        · simp [GInfo.eq_iff, hx_4, hx_6, hx_14]
    · -- decide (a.shape = b.shape) = false
      have hx_15 := of_decide_eq_false hb_5
      refine T_gn rfl rfl hb_5 rfl ?_
      refine T_gn rfl rfl hb_5 rfl ?_
      refine T_gn rfl rfl hb_5 rfl ?_
      refine T_gn rfl rfl hb_5 rfl ?_
      refine T_gn rfl rfl hb_5 rfl ?_
      refine T_pv rfl (pv_pick_f rfl hb_5 rfl) ?_
      refine T_pv rfl (pv_move rfl) ?_
      refine T_gn rfl rfl rfl rfl ?_
      refine T_gn rfl rfl rfl rfl ?_
      refine T_gn rfl rfl rfl rfl ?_
      refine T_gn rfl rfl rfl rfl ?_
      refine T_gn rfl rfl rfl rfl ?_
      refine T_pv rfl (pv_pick_f rfl rfl rfl) ?_
      refine T_pv rfl (pv_assign rfl) ?_
      refine T_nil ?_
      refine N_then ?_
      refine C_ret0 ?_
      -- ret 2: .bool false
      refine Q_ret (vs := [.bool false]) ⟨rfl, trivial⟩ (L' := []) [] trivial (by simp) (by decide) (⟨false, rfl, rfl, rfl, ?_⟩)
      · simp [GInfo.eq_iff, hx_4, hx_15]
  · -- decide (a.seq = b.seq) = false
    have hx_16 := of_decide_eq_false hb_3
    refine T_gn rfl rfl hb_3 rfl ?_
    refine T_gn rfl rfl hb_3 rfl ?_
    refine T_gn rfl rfl hb_3 rfl ?_
    refine T_gn rfl rfl hb_3 rfl ?_
    refine T_gn rfl rfl hb_3 rfl ?_
    refine T_pv rfl (pv_pick_f rfl hb_3 rfl) ?_
    refine T_pv rfl (pv_move rfl) ?_
    refine T_gn rfl rfl rfl rfl ?_
    refine T_gn rfl rfl rfl rfl ?_
    refine T_gn rfl rfl rfl rfl ?_
    refine T_gn rfl rfl rfl rfl ?_
    refine T_gn rfl rfl rfl rfl ?_
    refine T_pv rfl (pv_pick_f rfl rfl rfl) ?_
    refine T_pv rfl (pv_move rfl) ?_
    refine T_gn rfl rfl rfl rfl ?_
    refine T_gn rfl rfl rfl rfl ?_
    refine T_gn rfl rfl rfl rfl ?_
    refine T_gn rfl rfl rfl rfl ?_
    refine T_gn rfl rfl rfl rfl ?_
    refine T_pv rfl (pv_pick_f rfl rfl rfl) ?_
    refine T_pv rfl (pv_assign rfl) ?_
    refine T_nil ?_
    refine N_then ?_
    refine C_ret0 ?_
    -- ret 3: .bool false
    refine Q_ret (vs := [.bool false]) ⟨rfl, trivial⟩ (L' := []) [] trivial (by simp) (by decide) (⟨false, rfl, rfl, rfl, ?_⟩)
    · simp [GInfo.eq_iff, hx_16]

set_option maxRecDepth 100000 in
theorem f_r10_Same (S : Im) (a : GInfo) (ha0 : InR .u8 a.seq) (ha1 : InR .u8 a.shape) (ha2 : InR .i64 a.max) (Aa3 : Option Addr) (ca3 : Nat) (ha3 : RdA (kInt .i64) S Aa3 ca3 a.groups) (b : GInfo) (hb0 : InR .u8 b.seq) (hb1 : InR .u8 b.shape) (hb2 : InR .i64 b.max) (Ab3 : Option Addr) (cb3 : Nat) (hb3 : RdA (kInt .i64) S Ab3 cb3 b.groups) : Fn Try.prog 36 [.agg #[.int .u8 a.seq, .int .u8 a.shape, .int .i64 a.max, .slice Aa3 a.groups.length ca3], .agg #[.int .u8 b.seq, .int .u8 b.shape, .int .i64 b.max, .slice Ab3 b.groups.length cb3]] S [] fun v S' L' => ∃ (r0 : Bool), v = .bool r0 ∧ S = S' ∧ L' = [] ∧ (decide (a = b)) = r0 := by
  have hb_a0 := InR.u8 ha0
  have hb_a1 := InR.u8 ha1
  have hb_a2 := InR.i64 ha2
  have hb_a3 := ha3.bd
  have hb_b0 := InR.u8 hb0
  have hb_b1 := InR.u8 hb1
  have hb_b2 := InR.i64 hb2
  have hb_b3 := hb3.bd
  refine Fn_intro 31 Try.func36 rfl rfl rfl fun w0 => ?_
  refine C_seq ?_
  refine C_region rfl ?_
  refine T_cons (op_box (cs := [.int .u8 a.seq, .int .u8 a.shape, .int .i64 a.max, .slice Aa3 a.groups.length ca3]) (lt_of rfl) 101 rfl rfl fun g_1 => ?_)
  refine T_cons (op_box (cs := [.int .u8 b.seq, .int .u8 b.shape, .int .i64 b.max, .slice Ab3 b.groups.length cb3]) (lt_of rfl) 102 rfl rfl fun g_2 => ?_)
  refine T_pv rfl (pv_assign rfl) ?_
  refine T_nil ?_
  refine N_then ?_
  refine C_seq ?_
  refine C_region rfl ?_
  refine T_pv rfl (pv_fieldAddr rfl fl_32_0) ?_
  refine T_pv rfl (pv_load rfl ag5 (Cell.blk 101 rfl rfl)) ?_
  refine T_pv rfl (pv_fieldAddr rfl fl_32_0) ?_
  refine T_pv rfl (pv_load rfl ag5 (Cell.blk 102 rfl rfl)) ?_
  refine T_pv rfl (pv_eqi rfl rfl) ?_
  refine T_pv rfl (pv_move rfl) ?_
  refine T_gs (dj := 10) rfl (fun hb_3 => ?_) (fun hb_3 => ?_)
  · -- decide (a.seq = b.seq) = true
    have hx_4 := of_decide_eq_true hb_3
    refine T_gy rfl rfl hb_3 rfl (pv_fieldAddr rfl fl_32_1) ?_
    refine T_gy rfl rfl hb_3 rfl (pv_load rfl ag5 (Cell.blk 101 rfl rfl)) ?_
    refine T_gy rfl rfl hb_3 rfl (pv_fieldAddr rfl fl_32_1) ?_
    refine T_gy rfl rfl hb_3 rfl (pv_load rfl ag5 (Cell.blk 102 rfl rfl)) ?_
    refine T_gy rfl rfl hb_3 rfl (pv_eqi rfl rfl) ?_
    refine T_pv rfl (pv_pick_t rfl hb_3 rfl) ?_
    refine T_pv rfl (pv_move rfl) ?_
    refine T_gs (dj := 17) rfl (fun hb_5 => ?_) (fun hb_5 => ?_)
    · -- decide (a.shape = b.shape) = true
      have hx_6 := of_decide_eq_true hb_5
      refine T_gy rfl rfl hb_5 rfl (pv_fieldAddr rfl fl_32_2) ?_
      refine T_gy rfl rfl hb_5 rfl (pv_load rfl ag3 (Cell.blk 101 rfl rfl)) ?_
      refine T_gy rfl rfl hb_5 rfl (pv_fieldAddr rfl fl_32_2) ?_
      refine T_gy rfl rfl hb_5 rfl (pv_load rfl ag3 (Cell.blk 102 rfl rfl)) ?_
      refine T_gy rfl rfl hb_5 rfl (pv_eqi rfl rfl) ?_
      refine T_pv rfl (pv_pick_t rfl hb_5 rfl) ?_
      refine T_pv rfl (pv_move rfl) ?_
      refine T_gs (dj := 24) rfl (fun hb_7 => ?_) (fun hb_7 => ?_)
      · -- decide (a.max = b.max) = true
        have hx_8 := of_decide_eq_true hb_7
        refine T_gy rfl rfl hb_7 rfl (pv_fieldAddr rfl fl_32_3) ?_
        refine T_gy rfl rfl hb_7 rfl (pv_load rfl ag30 (Cell.blk 101 rfl rfl)) ?_
        refine T_gy rfl rfl hb_7 rfl (pv_fieldAddr rfl fl_32_3) ?_
        refine T_gy rfl rfl hb_7 rfl (pv_load rfl ag30 (Cell.blk 102 rfl rfl)) ?_
        refine T_gyo rfl rfl hb_7 (op_call (fun _ h => by cases h; exact lt_of rfl) rfl rfl rfl en37 (f_Ints _ _ _ a.groups ha3 _ _ b.groups hb3) [] trivial (by simp) (by decide) ?_)
        rintro v_12 S_10 L_13 ⟨r_9, rfl, rfl, rfl, rfl⟩ hle_11
        refine ⟨rfl, ?_⟩
        refine T_pv rfl (pv_pick_t rfl hb_7 rfl) ?_
        refine T_pv rfl (pv_assign rfl) ?_
        refine T_nil ?_
        refine N_then ?_
        refine C_ret0 ?_
        -- ret 0: .bool (decide (a.groups = b.groups))
        refine Q_ret (vs := [.bool (decide (a.groups = b.groups))]) ⟨rfl, trivial⟩ (L' := []) [] trivial (by simp) (by decide) (⟨decide (a.groups = b.groups), rfl, rfl, rfl, ?_⟩)
        · simp [GInfo.eq_iff, hx_4, hx_6, hx_8]
      · -- decide (a.max = b.max) = false
        have hx_14 := of_decide_eq_false hb_7
        refine T_gn rfl rfl hb_7 rfl ?_
        refine T_gn rfl rfl hb_7 rfl ?_
        refine T_gn rfl rfl hb_7 rfl ?_
        refine T_gn rfl rfl hb_7 rfl ?_
        refine T_gn rfl rfl hb_7 rfl ?_
        refine T_pv rfl (pv_pick_f rfl hb_7 rfl) ?_
        refine T_pv rfl (pv_assign rfl) ?_
        refine T_nil ?_
        refine N_then ?_
        refine C_ret0 ?_
        -- ret 1: .bool false
        refine Q_ret (vs := [.bool false]) ⟨rfl, trivial⟩ (L' := []) [] trivial (by simp) (by decide) (⟨false, rfl, rfl, rfl, ?_⟩)
        · simp [GInfo.eq_iff, hx_4, hx_6, hx_14]
    · -- decide (a.shape = b.shape) = false
      have hx_15 := of_decide_eq_false hb_5
      refine T_gn rfl rfl hb_5 rfl ?_
      refine T_gn rfl rfl hb_5 rfl ?_
      refine T_gn rfl rfl hb_5 rfl ?_
      refine T_gn rfl rfl hb_5 rfl ?_
      refine T_gn rfl rfl hb_5 rfl ?_
      refine T_pv rfl (pv_pick_f rfl hb_5 rfl) ?_
      refine T_pv rfl (pv_move rfl) ?_
      refine T_gn rfl rfl rfl rfl ?_
      refine T_gn rfl rfl rfl rfl ?_
      refine T_gn rfl rfl rfl rfl ?_
      refine T_gn rfl rfl rfl rfl ?_
      refine T_gn rfl rfl rfl rfl ?_
      refine T_pv rfl (pv_pick_f rfl rfl rfl) ?_
      refine T_pv rfl (pv_assign rfl) ?_
      refine T_nil ?_
      refine N_then ?_
      refine C_ret0 ?_
      -- ret 2: .bool false
      refine Q_ret (vs := [.bool false]) ⟨rfl, trivial⟩ (L' := []) [] trivial (by simp) (by decide) (⟨false, rfl, rfl, rfl, ?_⟩)
      · simp [GInfo.eq_iff, hx_4, hx_15]
  · -- decide (a.seq = b.seq) = false
    have hx_16 := of_decide_eq_false hb_3
    refine T_gn rfl rfl hb_3 rfl ?_
    refine T_gn rfl rfl hb_3 rfl ?_
    refine T_gn rfl rfl hb_3 rfl ?_
    refine T_gn rfl rfl hb_3 rfl ?_
    refine T_gn rfl rfl hb_3 rfl ?_
    refine T_pv rfl (pv_pick_f rfl hb_3 rfl) ?_
    refine T_pv rfl (pv_move rfl) ?_
    refine T_gn rfl rfl rfl rfl ?_
    refine T_gn rfl rfl rfl rfl ?_
    refine T_gn rfl rfl rfl rfl ?_
    refine T_gn rfl rfl rfl rfl ?_
    refine T_gn rfl rfl rfl rfl ?_
    refine T_pv rfl (pv_pick_f rfl rfl rfl) ?_
    refine T_pv rfl (pv_move rfl) ?_
    refine T_gn rfl rfl rfl rfl ?_
    refine T_gn rfl rfl rfl rfl ?_
    refine T_gn rfl rfl rfl rfl ?_
    refine T_gn rfl rfl rfl rfl ?_
    refine T_gn rfl rfl rfl rfl ?_
    refine T_pv rfl (pv_pick_f rfl rfl rfl) ?_
    refine T_pv rfl (pv_assign rfl) ?_
    refine T_nil ?_
    refine N_then ?_
    refine C_ret0 ?_
    -- ret 3: .bool false
    refine Q_ret (vs := [.bool false]) ⟨rfl, trivial⟩ (L' := []) [] trivial (by simp) (by decide) (⟨false, rfl, rfl, rfl, ?_⟩)
    · simp [GInfo.eq_iff, hx_16]

set_option maxRecDepth 100000 in
theorem f_lane_alike (S : Im) (a : GFilter) (ha0 : InR .i64 a.len) (ha1 : InR .i64 a.order) (Aa4 : Option Addr) (ca4 : Nat) (ha4 : RdA (kInt .i64) S Aa4 ca4 a.coefs) (b : GFilter) (hb0 : InR .i64 b.len) (hb1 : InR .i64 b.order) (Ab4 : Option Addr) (cb4 : Nat) (hb4 : RdA (kInt .i64) S Ab4 cb4 b.coefs) : Fn Try.prog 35 [.agg #[.int .i64 a.len, .int .i64 a.order, .bool a.down, .bool a.fine, .slice Aa4 a.coefs.length ca4], .agg #[.int .i64 b.len, .int .i64 b.order, .bool b.down, .bool b.fine, .slice Ab4 b.coefs.length cb4]] S [] fun v S' L' => ∃ (r0 : Bool), v = .bool r0 ∧ S = S' ∧ L' = [] ∧ (decide (a = b)) = r0 := by
  have hb_a0 := InR.i64 ha0
  have hb_a1 := InR.i64 ha1
  have hb_a4 := ha4.bd
  have hb_b0 := InR.i64 hb0
  have hb_b1 := InR.i64 hb1
  have hb_b4 := hb4.bd
  refine Fn_intro 38 Try.func35 rfl rfl rfl fun w0 => ?_
  refine C_seq ?_
  refine C_region rfl ?_
  refine T_cons (op_box (cs := [.int .i64 a.len, .int .i64 a.order, .bool a.down, .bool a.fine, .slice Aa4 a.coefs.length ca4]) (lt_of rfl) 101 rfl rfl fun g_1 => ?_)
  refine T_cons (op_box (cs := [.int .i64 b.len, .int .i64 b.order, .bool b.down, .bool b.fine, .slice Ab4 b.coefs.length cb4]) (lt_of rfl) 102 rfl rfl fun g_2 => ?_)
  refine T_pv rfl (pv_assign rfl) ?_
  refine T_nil ?_
  refine N_then ?_
  refine C_seq ?_
  refine C_region rfl ?_
  refine T_pv rfl (pv_fieldAddr rfl fl_53_0) ?_
  refine T_pv rfl (pv_load rfl ag3 (Cell.blk 101 rfl rfl)) ?_
  refine T_pv rfl (pv_fieldAddr rfl fl_53_0) ?_
  refine T_pv rfl (pv_load rfl ag3 (Cell.blk 102 rfl rfl)) ?_
  refine T_pv rfl (pv_eqi rfl rfl) ?_
  refine T_pv rfl (pv_move rfl) ?_
  refine T_gs (dj := 10) rfl (fun hb_3 => ?_) (fun hb_3 => ?_)
  · -- decide (a.len = b.len) = true
    have hx_4 := of_decide_eq_true hb_3
    refine T_gy rfl rfl hb_3 rfl (pv_fieldAddr rfl fl_53_1) ?_
    refine T_gy rfl rfl hb_3 rfl (pv_load rfl ag3 (Cell.blk 101 rfl rfl)) ?_
    refine T_gy rfl rfl hb_3 rfl (pv_fieldAddr rfl fl_53_1) ?_
    refine T_gy rfl rfl hb_3 rfl (pv_load rfl ag3 (Cell.blk 102 rfl rfl)) ?_
    refine T_gy rfl rfl hb_3 rfl (pv_eqi rfl rfl) ?_
    refine T_pv rfl (pv_pick_t rfl hb_3 rfl) ?_
    refine T_pv rfl (pv_move rfl) ?_
    refine T_gs (dj := 17) rfl (fun hb_5 => ?_) (fun hb_5 => ?_)
    · -- decide (a.order = b.order) = true
      have hx_6 := of_decide_eq_true hb_5
      refine T_gy rfl rfl hb_5 rfl (pv_fieldAddr rfl fl_53_2) ?_
      refine T_gy rfl rfl hb_5 rfl (pv_load rfl ag4 (Cell.blk 101 rfl rfl)) ?_
      refine T_gy rfl rfl hb_5 rfl (pv_fieldAddr rfl fl_53_2) ?_
      refine T_gy rfl rfl hb_5 rfl (pv_load rfl ag4 (Cell.blk 102 rfl rfl)) ?_
      refine T_gy rfl rfl hb_5 rfl (pv_eqlbd rfl rfl un4) ?_
      refine T_pv rfl (pv_pick_t rfl hb_5 rfl) ?_
      refine T_pv rfl (pv_move rfl) ?_
      refine T_gs (dj := 24) rfl (fun hb_7 => ?_) (fun hb_7 => ?_)
      · -- decide (a.down = b.down) = true
        have hx_8 := of_decide_eq_true hb_7
        refine T_gy rfl rfl hb_7 rfl (pv_fieldAddr rfl fl_53_3) ?_
        refine T_gy rfl rfl hb_7 rfl (pv_load rfl ag4 (Cell.blk 101 rfl rfl)) ?_
        refine T_gy rfl rfl hb_7 rfl (pv_fieldAddr rfl fl_53_3) ?_
        refine T_gy rfl rfl hb_7 rfl (pv_load rfl ag4 (Cell.blk 102 rfl rfl)) ?_
        refine T_gy rfl rfl hb_7 rfl (pv_eqlbd rfl rfl un4) ?_
        refine T_pv rfl (pv_pick_t rfl hb_7 rfl) ?_
        refine T_pv rfl (pv_move rfl) ?_
        refine T_gs (dj := 31) rfl (fun hb_9 => ?_) (fun hb_9 => ?_)
        · -- decide (a.fine = b.fine) = true
          have hx_10 := of_decide_eq_true hb_9
          refine T_gy rfl rfl hb_9 rfl (pv_fieldAddr rfl fl_53_4) ?_
          refine T_gy rfl rfl hb_9 rfl (pv_load rfl ag30 (Cell.blk 101 rfl rfl)) ?_
          refine T_gy rfl rfl hb_9 rfl (pv_fieldAddr rfl fl_53_4) ?_
          refine T_gy rfl rfl hb_9 rfl (pv_load rfl ag30 (Cell.blk 102 rfl rfl)) ?_
          refine T_gyo rfl rfl hb_9 (op_call (fun _ h => by cases h; exact lt_of rfl) rfl rfl rfl en28 (f_EqualI _ _ _ a.coefs ha4 _ _ b.coefs hb4) [] trivial (by simp) (by decide) ?_)
          rintro v_14 S_12 L_15 ⟨r_11, rfl, rfl, rfl, rfl⟩ hle_13
          refine ⟨rfl, ?_⟩
          refine T_pv rfl (pv_pick_t rfl hb_9 rfl) ?_
          refine T_pv rfl (pv_assign rfl) ?_
          refine T_nil ?_
          refine N_then ?_
          refine C_ret0 ?_
          -- ret 0: .bool (decide (a.coefs = b.coefs))
          refine Q_ret (vs := [.bool (decide (a.coefs = b.coefs))]) ⟨rfl, trivial⟩ (L' := []) [] trivial (by simp) (by decide) (⟨decide (a.coefs = b.coefs), rfl, rfl, rfl, ?_⟩)
          · simp [GFilter.eq_iff, hx_4, hx_6, hx_8, hx_10]
        · -- decide (a.fine = b.fine) = false
          have hx_16 := of_decide_eq_false hb_9
          refine T_gn rfl rfl hb_9 rfl ?_
          refine T_gn rfl rfl hb_9 rfl ?_
          refine T_gn rfl rfl hb_9 rfl ?_
          refine T_gn rfl rfl hb_9 rfl ?_
          refine T_gn rfl rfl hb_9 rfl ?_
          refine T_pv rfl (pv_pick_f rfl hb_9 rfl) ?_
          refine T_pv rfl (pv_assign rfl) ?_
          refine T_nil ?_
          refine N_then ?_
          refine C_ret0 ?_
          -- ret 1: .bool false
          refine Q_ret (vs := [.bool false]) ⟨rfl, trivial⟩ (L' := []) [] trivial (by simp) (by decide) (⟨false, rfl, rfl, rfl, ?_⟩)
          · simp [GFilter.eq_iff, hx_4, hx_6, hx_8, hx_16]
      · -- decide (a.down = b.down) = false
        have hx_17 := of_decide_eq_false hb_7
        refine T_gn rfl rfl hb_7 rfl ?_
        refine T_gn rfl rfl hb_7 rfl ?_
        refine T_gn rfl rfl hb_7 rfl ?_
        refine T_gn rfl rfl hb_7 rfl ?_
        refine T_gn rfl rfl hb_7 rfl ?_
        refine T_pv rfl (pv_pick_f rfl hb_7 rfl) ?_
        refine T_pv rfl (pv_move rfl) ?_
        refine T_gn rfl rfl rfl rfl ?_
        refine T_gn rfl rfl rfl rfl ?_
        refine T_gn rfl rfl rfl rfl ?_
        refine T_gn rfl rfl rfl rfl ?_
        refine T_gn rfl rfl rfl rfl ?_
        refine T_pv rfl (pv_pick_f rfl rfl rfl) ?_
        refine T_pv rfl (pv_assign rfl) ?_
        refine T_nil ?_
        refine N_then ?_
        refine C_ret0 ?_
        -- ret 2: .bool false
        refine Q_ret (vs := [.bool false]) ⟨rfl, trivial⟩ (L' := []) [] trivial (by simp) (by decide) (⟨false, rfl, rfl, rfl, ?_⟩)
        · simp [GFilter.eq_iff, hx_4, hx_6, hx_17]
    · -- decide (a.order = b.order) = false
      have hx_18 := of_decide_eq_false hb_5
      refine T_gn rfl rfl hb_5 rfl ?_
      refine T_gn rfl rfl hb_5 rfl ?_
      refine T_gn rfl rfl hb_5 rfl ?_
      refine T_gn rfl rfl hb_5 rfl ?_
      refine T_gn rfl rfl hb_5 rfl ?_
      refine T_pv rfl (pv_pick_f rfl hb_5 rfl) ?_
      refine T_pv rfl (pv_move rfl) ?_
      refine T_gn rfl rfl rfl rfl ?_
      refine T_gn rfl rfl rfl rfl ?_
      refine T_gn rfl rfl rfl rfl ?_
      refine T_gn rfl rfl rfl rfl ?_
      refine T_gn rfl rfl rfl rfl ?_
      refine T_pv rfl (pv_pick_f rfl rfl rfl) ?_
      refine T_pv rfl (pv_move rfl) ?_
      refine T_gn rfl rfl rfl rfl ?_
      refine T_gn rfl rfl rfl rfl ?_
      refine T_gn rfl rfl rfl rfl ?_
      refine T_gn rfl rfl rfl rfl ?_
      refine T_gn rfl rfl rfl rfl ?_
      refine T_pv rfl (pv_pick_f rfl rfl rfl) ?_
      refine T_pv rfl (pv_assign rfl) ?_
      refine T_nil ?_
      refine N_then ?_
      refine C_ret0 ?_
      -- ret 3: .bool false
      refine Q_ret (vs := [.bool false]) ⟨rfl, trivial⟩ (L' := []) [] trivial (by simp) (by decide) (⟨false, rfl, rfl, rfl, ?_⟩)
      · simp [GFilter.eq_iff, hx_4, hx_18]
  · -- decide (a.len = b.len) = false
    have hx_19 := of_decide_eq_false hb_3
    refine T_gn rfl rfl hb_3 rfl ?_
    refine T_gn rfl rfl hb_3 rfl ?_
    refine T_gn rfl rfl hb_3 rfl ?_
    refine T_gn rfl rfl hb_3 rfl ?_
    refine T_gn rfl rfl hb_3 rfl ?_
    refine T_pv rfl (pv_pick_f rfl hb_3 rfl) ?_
    refine T_pv rfl (pv_move rfl) ?_
    refine T_gn rfl rfl rfl rfl ?_
    refine T_gn rfl rfl rfl rfl ?_
    refine T_gn rfl rfl rfl rfl ?_
    refine T_gn rfl rfl rfl rfl ?_
    refine T_gn rfl rfl rfl rfl ?_
    refine T_pv rfl (pv_pick_f rfl rfl rfl) ?_
    refine T_pv rfl (pv_move rfl) ?_
    refine T_gn rfl rfl rfl rfl ?_
    refine T_gn rfl rfl rfl rfl ?_
    refine T_gn rfl rfl rfl rfl ?_
    refine T_gn rfl rfl rfl rfl ?_
    refine T_gn rfl rfl rfl rfl ?_
    refine T_pv rfl (pv_pick_f rfl rfl rfl) ?_
    refine T_pv rfl (pv_move rfl) ?_
    refine T_gn rfl rfl rfl rfl ?_
    refine T_gn rfl rfl rfl rfl ?_
    refine T_gn rfl rfl rfl rfl ?_
    refine T_gn rfl rfl rfl rfl ?_
    refine T_gn rfl rfl rfl rfl ?_
    refine T_pv rfl (pv_pick_f rfl rfl rfl) ?_
    refine T_pv rfl (pv_assign rfl) ?_
    refine T_nil ?_
    refine N_then ?_
    refine C_ret0 ?_
    -- ret 4: .bool false
    refine Q_ret (vs := [.bool false]) ⟨rfl, trivial⟩ (L' := []) [] trivial (by simp) (by decide) (⟨false, rfl, rfl, rfl, ?_⟩)
    · simp [GFilter.eq_iff, hx_19]

set_option maxRecDepth 100000 in
theorem f_EqFBo (S : Im) (Aa : Option Addr) (ca : Nat) (a : List (List Bool)) (ha : RdA (kSl kBool) S Aa ca a) (Ab : Option Addr) (cb : Nat) (b : List (List Bool)) (hb : RdA (kSl kBool) S Ab cb b) (fq : FuncId) (csq : List Value) (heq : ∀ args w, (callFunc fq args).run Try.prog w = .ok (.enter fq args) w) (hfq : ∀ (A : Option Addr) (c : Nat) (x : (List Bool)) (B : Option Addr) (e : Nat) (y : (List Bool)), RdA kBool S A c x → RdA kBool S B e y → Fn Try.prog fq (.slice A x.length c :: .slice B y.length e :: csq) S [] fun v S' L' => v = .bool (decide (x = y)) ∧ S = S' ∧ L' = []) : Fn Try.prog 18 [.slice Aa a.length ca, .slice Ab b.length cb, .func (.func fq) #[] csq.toArray] S [] fun v S' L' => ∃ (r0 : Bool), v = .bool r0 ∧ S = S' ∧ L' = [] ∧ (decide (a = b)) = r0 := by
  have hb_a := ha.bd
  have hb_b := hb.bd
  refine Fn_intro 32 Try.func18 rfl rfl rfl fun w0 => ?_
  refine C_seq ?_
  refine C_region rfl ?_
  refine T_pv rfl (pv_assign rfl) ?_
  refine T_nil ?_
  refine N_then ?_
  refine C_seq ?_
  refine C_seq ?_
  refine C_region rfl ?_
  refine T_pv rfl (pv_move rfl) ?_
  refine T_pv rfl (pv_len rfl el23) ?_
  refine T_pv rfl (pv_move rfl) ?_
  refine T_pv rfl (pv_len rfl el23) ?_
  refine T_pv rfl (pv_nei rfl rfl) ?_
  refine T_nil ?_
  refine N_then ?_
  refine C_cond rfl (fun hb_1 => ?_) (fun hb_1 => ?_)
  · -- decide ((a.length : Int) ≠ (b.length : Int)) = true
    have hx_2 := of_decide_eq_true hb_1
    refine C_seq ?_
    refine C_region rfl ?_
    refine T_pv rfl (pv_assign rfl) ?_
    refine T_nil ?_
    refine N_then ?_
    refine C_ret0 ?_
    refine R_then ?_
    -- ret 0: .bool false
    refine Q_ret (vs := [.bool false]) ⟨rfl, trivial⟩ (L' := []) [] trivial (by simp) (by decide) (⟨false, rfl, rfl, rfl, ?_⟩)
    · exact (eqL_len hx_2).symm
  · -- decide ((a.length : Int) ≠ (b.length : Int)) = false
    have hx_3 := of_decide_eq_false hb_1
    refine C_skip ?_
    refine N_then ?_
    refine C_seq ?_
    refine C_seq ?_
    refine C_region rfl ?_
    refine T_pv rfl (pv_move rfl) ?_
    refine T_pv rfl (pv_len rfl el23) ?_
    refine T_pv rfl (pv_move rfl) ?_
    refine T_nil ?_
    refine N_then ?_
    refine C_block ?_
    refine C_loop (fun (x : Int) => (S, [], [(0, .slice Aa a.length ca), (1, .slice Ab b.length cb), (2, .func (.func fq) #[] csq.toArray), (10, .slice Aa a.length ca), (11, .int .i64 (a.length : Int)), (12, .slice Ab b.length cb), (13, .int .i64 (b.length : Int)), (14, .bool (decide ((a.length : Int) ≠ (b.length : Int)))), (15, .slice Aa a.length ca), (16, .int .i64 (a.length : Int)), (17, .int .i64 x)])) (fun (x : Int) => 0 ≤ x ∧ x ≤ a.length ∧ a.take (x).toNat = b.take (x).toNat) (fun (x : Int) => (a.length - x).toNat) (0) ⟨by omega, by omega, by simp⟩ rfl trivial ⟨rfl, rfl, rfl, rfl, rfl, rfl, rfl, rfl, rfl, rfl, rfl, trivial⟩ ?_
    rintro i ⟨q0, q1, q2⟩
    dsimp only
    refine C_seq ?_
    refine C_region rfl ?_
    refine T_pv rfl (pv_lss rfl rfl) ?_
    refine T_nil ?_
    refine N_then ?_
    refine C_seq ?_
    refine C_cond rfl (fun hb_5 => ?_) (fun hb_5 => ?_)
    · -- decide (i < (a.length : Int)) = true
      have hx_6 := of_decide_eq_true hb_5
      refine C_skip ?_
      refine N_then ?_
      refine C_seq ?_
      refine C_block ?_
      refine C_seq ?_
      refine C_region rfl ?_
      refine T_pv rfl (pv_move rfl) ?_
      obtain ⟨us_7, hk_8, he_9⟩ := RdA.elt ha (i := i) (by omega) (by omega)
      obtain ⟨A_10, c_11, rfl, h_12⟩ := hk_8
      have hb_13 := h_12.bd
      refine T_pv rfl (pv_idx ha rfl rfl el23 sz38 (by omega) (by omega)) ?_
      refine T_pv rfl (pv_load rfl ag38 ((he_9 _ _ (ImLe.refl _)).zero rfl)) ?_
      refine T_pv rfl (pv_assign rfl) ?_
      refine T_pv rfl (pv_assign rfl) ?_
      refine T_nil ?_
      refine N_then ?_
      refine C_seq ?_
      refine C_region rfl ?_
      refine T_pv rfl (pv_move rfl) ?_
      refine T_pv rfl (pv_move rfl) ?_
      obtain ⟨us_14, hk_15, he_16⟩ := RdA.elt hb (i := i) (by omega) (by omega)
      obtain ⟨A_17, c_18, rfl, h_19⟩ := hk_15
      have hb_20 := h_19.bd
      refine T_pv rfl (pv_idx hb rfl rfl el23 sz38 (by omega) (by omega)) ?_
      refine T_pv rfl (pv_load rfl ag38 ((he_16 _ _ (ImLe.refl _)).zero rfl)) ?_
      refine T_pv rfl (pv_assign rfl) ?_
      refine T_nil ?_
      refine N_then ?_
      refine C_seq ?_
      refine C_region rfl ?_
      refine T_pv rfl (pv_move rfl) ?_
      refine T_pv rfl (pv_move rfl) ?_
      refine T_pv rfl (pv_move rfl) ?_
      refine T_cons (op_call (fun _ h => by cases h; exact lt_of rfl) rfl rfl rfl heq (hfq _ _ (a.getD (i).toNat default) _ _ (b.getD (i).toNat default) h_12 h_19) [] trivial (by simp) (by decide) ?_)
      rintro v_23 S_21 L_24 ⟨rfl, rfl, rfl⟩ hle_22
      refine ⟨rfl, ?_⟩
      refine T_pv rfl (pv_not rfl) ?_
      refine T_nil ?_
      refine N_then ?_
      refine C_cond rfl (fun hb_25 => ?_) (fun hb_25 => ?_)
      · -- !(decide (a.getD (i).toNat default = b.getD (i).toNat default)) = true
        have hn_26 : (decide (a.getD (i).toNat default = b.getD (i).toNat default)) = false := by simpa using hb_25
        have hx_27 := of_decide_eq_false hn_26
        refine C_seq ?_
        refine C_region rfl ?_
        refine T_pv rfl (pv_assign rfl) ?_
        refine T_nil ?_
        refine N_then ?_
        refine C_ret0 ?_
        refine R_block ?_
        refine R_then ?_
        refine R_loop ?_
        refine R_block ?_
        refine R_then ?_
        -- ret 1: .bool false
        refine Q_ret (vs := [.bool false]) ⟨rfl, trivial⟩ (L' := []) [] trivial (by simp) (by decide) (⟨false, rfl, rfl, rfl, ?_⟩)
        · exact (eqL_at (by simpa using hx_27)).symm
      · -- !(decide (a.getD (i).toNat default = b.getD (i).toNat default)) = false
        have hn_28 : (decide (a.getD (i).toNat default = b.getD (i).toNat default)) = true := by simpa using hb_25
        have hx_29 := of_decide_eq_true hn_28
        refine C_skip ?_
        refine N_block ?_
        refine N_then ?_
        refine C_region rfl ?_
        have hr_30 : InR .i64 (i + 1) := inR_i64 (by omega) (by omega)
        refine T_pv rfl (pv_add rfl rfl hr_30) ?_
        refine T_pv rfl (pv_move rfl) ?_
        refine T_nil ?_
        refine N_next (i + 1) ⟨by omega, by omega, eqL_next (by omega) (by omega) (by omega) q2 (by simpa using hx_29)⟩ (by first | omega | (dsimp only; omega)) rfl trivial ⟨rfl, rfl, rfl, rfl, rfl, rfl, rfl, rfl, rfl, rfl, rfl, trivial⟩
    · -- decide (i < (a.length : Int)) = false
      have hx_31 := of_decide_eq_false hb_5
      refine C_exit ?_
      refine X_then ?_
      refine X_loop ?_
      refine X_block ?_
      refine N_then ?_
      refine C_seq ?_
      refine C_region rfl ?_
      refine T_pv rfl (pv_assign rfl) ?_
      refine T_nil ?_
      refine N_then ?_
      refine C_ret0 ?_
      -- ret 2: .bool true
      refine Q_ret (vs := [.bool true]) ⟨rfl, trivial⟩ (L' := []) [] trivial (by simp) (by decide) (⟨true, rfl, rfl, rfl, ?_⟩)
      · exact (eqL_all (by omega) (by omega) q2).symm

set_option maxRecDepth 100000 in
theorem f_EqFS (S : Im) (Aa : Option Addr) (ca : Nat) (a : List (List GSection)) (ha : RdA (kSl kGSection) S Aa ca a) (Ab : Option Addr) (cb : Nat) (b : List (List GSection)) (hb : RdA (kSl kGSection) S Ab cb b) (fq : FuncId) (csq : List Value) (heq : ∀ args w, (callFunc fq args).run Try.prog w = .ok (.enter fq args) w) (hfq : ∀ (A : Option Addr) (c : Nat) (x : (List GSection)) (B : Option Addr) (e : Nat) (y : (List GSection)), RdA kGSection S A c x → RdA kGSection S B e y → Fn Try.prog fq (.slice A x.length c :: .slice B y.length e :: csq) S [] fun v S' L' => v = .bool (decide (x = y)) ∧ S = S' ∧ L' = []) : Fn Try.prog 29 [.slice Aa a.length ca, .slice Ab b.length cb, .func (.func fq) #[] csq.toArray] S [] fun v S' L' => ∃ (r0 : Bool), v = .bool r0 ∧ S = S' ∧ L' = [] ∧ (decide (a = b)) = r0 := by
  have hb_a := ha.bd
  have hb_b := hb.bd
  refine Fn_intro 32 Try.func29 rfl rfl rfl fun w0 => ?_
  refine C_seq ?_
  refine C_region rfl ?_
  refine T_pv rfl (pv_assign rfl) ?_
  refine T_nil ?_
  refine N_then ?_
  refine C_seq ?_
  refine C_seq ?_
  refine C_region rfl ?_
  refine T_pv rfl (pv_move rfl) ?_
  refine T_pv rfl (pv_len rfl el33) ?_
  refine T_pv rfl (pv_move rfl) ?_
  refine T_pv rfl (pv_len rfl el33) ?_
  refine T_pv rfl (pv_nei rfl rfl) ?_
  refine T_nil ?_
  refine N_then ?_
  refine C_cond rfl (fun hb_1 => ?_) (fun hb_1 => ?_)
  · -- decide ((a.length : Int) ≠ (b.length : Int)) = true
    have hx_2 := of_decide_eq_true hb_1
    refine C_seq ?_
    refine C_region rfl ?_
    refine T_pv rfl (pv_assign rfl) ?_
    refine T_nil ?_
    refine N_then ?_
    refine C_ret0 ?_
    refine R_then ?_
    -- ret 0: .bool false
    refine Q_ret (vs := [.bool false]) ⟨rfl, trivial⟩ (L' := []) [] trivial (by simp) (by decide) (⟨false, rfl, rfl, rfl, ?_⟩)
    · exact (eqL_len hx_2).symm
  · -- decide ((a.length : Int) ≠ (b.length : Int)) = false
    have hx_3 := of_decide_eq_false hb_1
    refine C_skip ?_
    refine N_then ?_
    refine C_seq ?_
    refine C_seq ?_
    refine C_region rfl ?_
    refine T_pv rfl (pv_move rfl) ?_
    refine T_pv rfl (pv_len rfl el33) ?_
    refine T_pv rfl (pv_move rfl) ?_
    refine T_nil ?_
    refine N_then ?_
    refine C_block ?_
    refine C_loop (fun (x : Int) => (S, [], [(0, .slice Aa a.length ca), (1, .slice Ab b.length cb), (2, .func (.func fq) #[] csq.toArray), (10, .slice Aa a.length ca), (11, .int .i64 (a.length : Int)), (12, .slice Ab b.length cb), (13, .int .i64 (b.length : Int)), (14, .bool (decide ((a.length : Int) ≠ (b.length : Int)))), (15, .slice Aa a.length ca), (16, .int .i64 (a.length : Int)), (17, .int .i64 x)])) (fun (x : Int) => 0 ≤ x ∧ x ≤ a.length ∧ a.take (x).toNat = b.take (x).toNat) (fun (x : Int) => (a.length - x).toNat) (0) ⟨by omega, by omega, by simp⟩ rfl trivial ⟨rfl, rfl, rfl, rfl, rfl, rfl, rfl, rfl, rfl, rfl, rfl, trivial⟩ ?_
    rintro i ⟨q0, q1, q2⟩
    dsimp only
    refine C_seq ?_
    refine C_region rfl ?_
    refine T_pv rfl (pv_lss rfl rfl) ?_
    refine T_nil ?_
    refine N_then ?_
    refine C_seq ?_
    refine C_cond rfl (fun hb_5 => ?_) (fun hb_5 => ?_)
    · -- decide (i < (a.length : Int)) = true
      have hx_6 := of_decide_eq_true hb_5
      refine C_skip ?_
      refine N_then ?_
      refine C_seq ?_
      refine C_block ?_
      refine C_seq ?_
      refine C_region rfl ?_
      refine T_pv rfl (pv_move rfl) ?_
      obtain ⟨us_7, hk_8, he_9⟩ := RdA.elt ha (i := i) (by omega) (by omega)
      obtain ⟨A_10, c_11, rfl, h_12⟩ := hk_8
      have hb_13 := h_12.bd
      refine T_pv rfl (pv_idx ha rfl rfl el33 sz50 (by omega) (by omega)) ?_
      refine T_pv rfl (pv_load rfl ag50 ((he_9 _ _ (ImLe.refl _)).zero rfl)) ?_
      refine T_pv rfl (pv_assign rfl) ?_
      refine T_pv rfl (pv_assign rfl) ?_
      refine T_nil ?_
      refine N_then ?_
      refine C_seq ?_
      refine C_region rfl ?_
      refine T_pv rfl (pv_move rfl) ?_
      refine T_pv rfl (pv_move rfl) ?_
      obtain ⟨us_14, hk_15, he_16⟩ := RdA.elt hb (i := i) (by omega) (by omega)
      obtain ⟨A_17, c_18, rfl, h_19⟩ := hk_15
      have hb_20 := h_19.bd
      refine T_pv rfl (pv_idx hb rfl rfl el33 sz50 (by omega) (by omega)) ?_
      refine T_pv rfl (pv_load rfl ag50 ((he_16 _ _ (ImLe.refl _)).zero rfl)) ?_
      refine T_pv rfl (pv_assign rfl) ?_
      refine T_nil ?_
      refine N_then ?_
      refine C_seq ?_
      refine C_region rfl ?_
      refine T_pv rfl (pv_move rfl) ?_
      refine T_pv rfl (pv_move rfl) ?_
      refine T_pv rfl (pv_move rfl) ?_
      refine T_cons (op_call (fun _ h => by cases h; exact lt_of rfl) rfl rfl rfl heq (hfq _ _ (a.getD (i).toNat default) _ _ (b.getD (i).toNat default) h_12 h_19) [] trivial (by simp) (by decide) ?_)
      rintro v_23 S_21 L_24 ⟨rfl, rfl, rfl⟩ hle_22
      refine ⟨rfl, ?_⟩
      refine T_pv rfl (pv_not rfl) ?_
      refine T_nil ?_
      refine N_then ?_
      refine C_cond rfl (fun hb_25 => ?_) (fun hb_25 => ?_)
      · -- !(decide (a.getD (i).toNat default = b.getD (i).toNat default)) = true
        have hn_26 : (decide (a.getD (i).toNat default = b.getD (i).toNat default)) = false := by simpa using hb_25
        have hx_27 := of_decide_eq_false hn_26
        refine C_seq ?_
        refine C_region rfl ?_
        refine T_pv rfl (pv_assign rfl) ?_
        refine T_nil ?_
        refine N_then ?_
        refine C_ret0 ?_
        refine R_block ?_
        refine R_then ?_
        refine R_loop ?_
        refine R_block ?_
        refine R_then ?_
        -- ret 1: .bool false
        refine Q_ret (vs := [.bool false]) ⟨rfl, trivial⟩ (L' := []) [] trivial (by simp) (by decide) (⟨false, rfl, rfl, rfl, ?_⟩)
        · exact (eqL_at (by simpa using hx_27)).symm
      · -- !(decide (a.getD (i).toNat default = b.getD (i).toNat default)) = false
        have hn_28 : (decide (a.getD (i).toNat default = b.getD (i).toNat default)) = true := by simpa using hb_25
        have hx_29 := of_decide_eq_true hn_28
        refine C_skip ?_
        refine N_block ?_
        refine N_then ?_
        refine C_region rfl ?_
        have hr_30 : InR .i64 (i + 1) := inR_i64 (by omega) (by omega)
        refine T_pv rfl (pv_add rfl rfl hr_30) ?_
        refine T_pv rfl (pv_move rfl) ?_
        refine T_nil ?_
        refine N_next (i + 1) ⟨by omega, by omega, eqL_next (by omega) (by omega) (by omega) q2 (by simpa using hx_29)⟩ (by first | omega | (dsimp only; omega)) rfl trivial ⟨rfl, rfl, rfl, rfl, rfl, rfl, rfl, rfl, rfl, rfl, rfl, trivial⟩
    · -- decide (i < (a.length : Int)) = false
      have hx_31 := of_decide_eq_false hb_5
      refine C_exit ?_
      refine X_then ?_
      refine X_loop ?_
      refine X_block ?_
      refine N_then ?_
      refine C_seq ?_
      refine C_region rfl ?_
      refine T_pv rfl (pv_assign rfl) ?_
      refine T_nil ?_
      refine N_then ?_
      refine C_ret0 ?_
      -- ret 2: .bool true
      refine Q_ret (vs := [.bool true]) ⟨rfl, trivial⟩ (L' := []) [] trivial (by simp) (by decide) (⟨true, rfl, rfl, rfl, ?_⟩)
      · exact (eqL_all (by omega) (by omega) q2).symm

set_option maxRecDepth 100000 in
theorem f_EqFI (S : Im) (Aa : Option Addr) (ca : Nat) (a : List (List Int)) (ha : RdA (kSl (kInt .i64)) S Aa ca a) (Ab : Option Addr) (cb : Nat) (b : List (List Int)) (hb : RdA (kSl (kInt .i64)) S Ab cb b) (fq : FuncId) (csq : List Value) (heq : ∀ args w, (callFunc fq args).run Try.prog w = .ok (.enter fq args) w) (hfq : ∀ (A : Option Addr) (c : Nat) (x : (List Int)) (B : Option Addr) (e : Nat) (y : (List Int)), RdA (kInt .i64) S A c x → RdA (kInt .i64) S B e y → Fn Try.prog fq (.slice A x.length c :: .slice B y.length e :: csq) S [] fun v S' L' => v = .bool (decide (x = y)) ∧ S = S' ∧ L' = []) : Fn Try.prog 31 [.slice Aa a.length ca, .slice Ab b.length cb, .func (.func fq) #[] csq.toArray] S [] fun v S' L' => ∃ (r0 : Bool), v = .bool r0 ∧ S = S' ∧ L' = [] ∧ (decide (a = b)) = r0 := by
  have hb_a := ha.bd
  have hb_b := hb.bd
  refine Fn_intro 32 Try.func31 rfl rfl rfl fun w0 => ?_
  refine C_seq ?_
  refine C_region rfl ?_
  refine T_pv rfl (pv_assign rfl) ?_
  refine T_nil ?_
  refine N_then ?_
  refine C_seq ?_
  refine C_seq ?_
  refine C_region rfl ?_
  refine T_pv rfl (pv_move rfl) ?_
  refine T_pv rfl (pv_len rfl el34) ?_
  refine T_pv rfl (pv_move rfl) ?_
  refine T_pv rfl (pv_len rfl el34) ?_
  refine T_pv rfl (pv_nei rfl rfl) ?_
  refine T_nil ?_
  refine N_then ?_
  refine C_cond rfl (fun hb_1 => ?_) (fun hb_1 => ?_)
  · -- decide ((a.length : Int) ≠ (b.length : Int)) = true
    have hx_2 := of_decide_eq_true hb_1
    refine C_seq ?_
    refine C_region rfl ?_
    refine T_pv rfl (pv_assign rfl) ?_
    refine T_nil ?_
    refine N_then ?_
    refine C_ret0 ?_
    refine R_then ?_
    -- ret 0: .bool false
    refine Q_ret (vs := [.bool false]) ⟨rfl, trivial⟩ (L' := []) [] trivial (by simp) (by decide) (⟨false, rfl, rfl, rfl, ?_⟩)
    · exact (eqL_len hx_2).symm
  · -- decide ((a.length : Int) ≠ (b.length : Int)) = false
    have hx_3 := of_decide_eq_false hb_1
    refine C_skip ?_
    refine N_then ?_
    refine C_seq ?_
    refine C_seq ?_
    refine C_region rfl ?_
    refine T_pv rfl (pv_move rfl) ?_
    refine T_pv rfl (pv_len rfl el34) ?_
    refine T_pv rfl (pv_move rfl) ?_
    refine T_nil ?_
    refine N_then ?_
    refine C_block ?_
    refine C_loop (fun (x : Int) => (S, [], [(0, .slice Aa a.length ca), (1, .slice Ab b.length cb), (2, .func (.func fq) #[] csq.toArray), (10, .slice Aa a.length ca), (11, .int .i64 (a.length : Int)), (12, .slice Ab b.length cb), (13, .int .i64 (b.length : Int)), (14, .bool (decide ((a.length : Int) ≠ (b.length : Int)))), (15, .slice Aa a.length ca), (16, .int .i64 (a.length : Int)), (17, .int .i64 x)])) (fun (x : Int) => 0 ≤ x ∧ x ≤ a.length ∧ a.take (x).toNat = b.take (x).toNat) (fun (x : Int) => (a.length - x).toNat) (0) ⟨by omega, by omega, by simp⟩ rfl trivial ⟨rfl, rfl, rfl, rfl, rfl, rfl, rfl, rfl, rfl, rfl, rfl, trivial⟩ ?_
    rintro i ⟨q0, q1, q2⟩
    dsimp only
    refine C_seq ?_
    refine C_region rfl ?_
    refine T_pv rfl (pv_lss rfl rfl) ?_
    refine T_nil ?_
    refine N_then ?_
    refine C_seq ?_
    refine C_cond rfl (fun hb_5 => ?_) (fun hb_5 => ?_)
    · -- decide (i < (a.length : Int)) = true
      have hx_6 := of_decide_eq_true hb_5
      refine C_skip ?_
      refine N_then ?_
      refine C_seq ?_
      refine C_block ?_
      refine C_seq ?_
      refine C_region rfl ?_
      refine T_pv rfl (pv_move rfl) ?_
      obtain ⟨us_7, hk_8, he_9⟩ := RdA.elt ha (i := i) (by omega) (by omega)
      obtain ⟨A_10, c_11, rfl, h_12⟩ := hk_8
      have hb_13 := h_12.bd
      refine T_pv rfl (pv_idx ha rfl rfl el34 sz30 (by omega) (by omega)) ?_
      refine T_pv rfl (pv_load rfl ag30 ((he_9 _ _ (ImLe.refl _)).zero rfl)) ?_
      refine T_pv rfl (pv_assign rfl) ?_
      refine T_pv rfl (pv_assign rfl) ?_
      refine T_nil ?_
      refine N_then ?_
      refine C_seq ?_
      refine C_region rfl ?_
      refine T_pv rfl (pv_move rfl) ?_
      refine T_pv rfl (pv_move rfl) ?_
      obtain ⟨us_14, hk_15, he_16⟩ := RdA.elt hb (i := i) (by omega) (by omega)
      obtain ⟨A_17, c_18, rfl, h_19⟩ := hk_15
      have hb_20 := h_19.bd
      refine T_pv rfl (pv_idx hb rfl rfl el34 sz30 (by omega) (by omega)) ?_
      refine T_pv rfl (pv_load rfl ag30 ((he_16 _ _ (ImLe.refl _)).zero rfl)) ?_
      refine T_pv rfl (pv_assign rfl) ?_
      refine T_nil ?_
      refine N_then ?_
      refine C_seq ?_
      refine C_region rfl ?_
      refine T_pv rfl (pv_move rfl) ?_
      refine T_pv rfl (pv_move rfl) ?_
      refine T_pv rfl (pv_move rfl) ?_
      refine T_cons (op_call (fun _ h => by cases h; exact lt_of rfl) rfl rfl rfl heq (hfq _ _ (a.getD (i).toNat default) _ _ (b.getD (i).toNat default) h_12 h_19) [] trivial (by simp) (by decide) ?_)
      rintro v_23 S_21 L_24 ⟨rfl, rfl, rfl⟩ hle_22
      refine ⟨rfl, ?_⟩
      refine T_pv rfl (pv_not rfl) ?_
      refine T_nil ?_
      refine N_then ?_
      refine C_cond rfl (fun hb_25 => ?_) (fun hb_25 => ?_)
      · -- !(decide (a.getD (i).toNat default = b.getD (i).toNat default)) = true
        have hn_26 : (decide (a.getD (i).toNat default = b.getD (i).toNat default)) = false := by simpa using hb_25
        have hx_27 := of_decide_eq_false hn_26
        refine C_seq ?_
        refine C_region rfl ?_
        refine T_pv rfl (pv_assign rfl) ?_
        refine T_nil ?_
        refine N_then ?_
        refine C_ret0 ?_
        refine R_block ?_
        refine R_then ?_
        refine R_loop ?_
        refine R_block ?_
        refine R_then ?_
        -- ret 1: .bool false
        refine Q_ret (vs := [.bool false]) ⟨rfl, trivial⟩ (L' := []) [] trivial (by simp) (by decide) (⟨false, rfl, rfl, rfl, ?_⟩)
        · exact (eqL_at (by simpa using hx_27)).symm
      · -- !(decide (a.getD (i).toNat default = b.getD (i).toNat default)) = false
        have hn_28 : (decide (a.getD (i).toNat default = b.getD (i).toNat default)) = true := by simpa using hb_25
        have hx_29 := of_decide_eq_true hn_28
        refine C_skip ?_
        refine N_block ?_
        refine N_then ?_
        refine C_region rfl ?_
        have hr_30 : InR .i64 (i + 1) := inR_i64 (by omega) (by omega)
        refine T_pv rfl (pv_add rfl rfl hr_30) ?_
        refine T_pv rfl (pv_move rfl) ?_
        refine T_nil ?_
        refine N_next (i + 1) ⟨by omega, by omega, eqL_next (by omega) (by omega) (by omega) q2 (by simpa using hx_29)⟩ (by first | omega | (dsimp only; omega)) rfl trivial ⟨rfl, rfl, rfl, rfl, rfl, rfl, rfl, rfl, rfl, rfl, rfl, trivial⟩
    · -- decide (i < (a.length : Int)) = false
      have hx_31 := of_decide_eq_false hb_5
      refine C_exit ?_
      refine X_then ?_
      refine X_loop ?_
      refine X_block ?_
      refine N_then ?_
      refine C_seq ?_
      refine C_region rfl ?_
      refine T_pv rfl (pv_assign rfl) ?_
      refine T_nil ?_
      refine N_then ?_
      refine C_ret0 ?_
      -- ret 2: .bool true
      refine Q_ret (vs := [.bool true]) ⟨rfl, trivial⟩ (L' := []) [] trivial (by simp) (by decide) (⟨true, rfl, rfl, rfl, ?_⟩)
      · exact (eqL_all (by omega) (by omega) q2).symm

set_option maxRecDepth 100000 in
theorem f_EqFF (S : Im) (Aa : Option Addr) (ca : Nat) (a : List GFilter) (ha : RdA kGFilter S Aa ca a) (Ab : Option Addr) (cb : Nat) (b : List GFilter) (hb : RdA kGFilter S Ab cb b) (fq : FuncId) (csq : List Value) (heq : ∀ args w, (callFunc fq args).run Try.prog w = .ok (.enter fq args) w) (hfq : ∀ (us vs : List Value) (x y : GFilter), kGFilter.K S us x → kGFilter.K S vs y → Fn Try.prog fq (.agg us.toArray :: .agg vs.toArray :: csq) S [] fun v S' L' => v = .bool (decide (x = y)) ∧ S = S' ∧ L' = []) : Fn Try.prog 34 [.slice Aa a.length ca, .slice Ab b.length cb, .func (.func fq) #[] csq.toArray] S [] fun v S' L' => ∃ (r0 : Bool), v = .bool r0 ∧ S = S' ∧ L' = [] ∧ (decide (a = b)) = r0 := by
  have hb_a := ha.bd
  have hb_b := hb.bd
  refine Fn_intro 32 Try.func34 rfl rfl rfl fun w0 => ?_
  refine C_seq ?_
  refine C_region rfl ?_
  refine T_pv rfl (pv_assign rfl) ?_
  refine T_nil ?_
  refine N_then ?_
  refine C_seq ?_
  refine C_seq ?_
  refine C_region rfl ?_
  refine T_pv rfl (pv_move rfl) ?_
  refine T_pv rfl (pv_len rfl el51) ?_
  refine T_pv rfl (pv_move rfl) ?_
  refine T_pv rfl (pv_len rfl el51) ?_
  refine T_pv rfl (pv_nei rfl rfl) ?_
  refine T_nil ?_
  refine N_then ?_
  refine C_cond rfl (fun hb_1 => ?_) (fun hb_1 => ?_)
  · -- decide ((a.length : Int) ≠ (b.length : Int)) = true
    have hx_2 := of_decide_eq_true hb_1
    refine C_seq ?_
    refine C_region rfl ?_
    refine T_pv rfl (pv_assign rfl) ?_
    refine T_nil ?_
    refine N_then ?_
    refine C_ret0 ?_
    refine R_then ?_
    -- ret 0: .bool false
    refine Q_ret (vs := [.bool false]) ⟨rfl, trivial⟩ (L' := []) [] trivial (by simp) (by decide) (⟨false, rfl, rfl, rfl, ?_⟩)
    · exact (eqL_len hx_2).symm
  · -- decide ((a.length : Int) ≠ (b.length : Int)) = false
    have hx_3 := of_decide_eq_false hb_1
    refine C_skip ?_
    refine N_then ?_
    refine C_seq ?_
    refine C_seq ?_
    refine C_region rfl ?_
    refine T_pv rfl (pv_move rfl) ?_
    refine T_pv rfl (pv_len rfl el51) ?_
    refine T_pv rfl (pv_move rfl) ?_
    refine T_nil ?_
    refine N_then ?_
    refine C_block ?_
    refine C_loop (fun (x : Int) => (S, [], [(0, .slice Aa a.length ca), (1, .slice Ab b.length cb), (2, .func (.func fq) #[] csq.toArray), (10, .slice Aa a.length ca), (11, .int .i64 (a.length : Int)), (12, .slice Ab b.length cb), (13, .int .i64 (b.length : Int)), (14, .bool (decide ((a.length : Int) ≠ (b.length : Int)))), (15, .slice Aa a.length ca), (16, .int .i64 (a.length : Int)), (17, .int .i64 x)])) (fun (x : Int) => 0 ≤ x ∧ x ≤ a.length ∧ a.take (x).toNat = b.take (x).toNat) (fun (x : Int) => (a.length - x).toNat) (0) ⟨by omega, by omega, by simp⟩ rfl trivial ⟨rfl, rfl, rfl, rfl, rfl, rfl, rfl, rfl, rfl, rfl, rfl, trivial⟩ ?_
    rintro i ⟨q0, q1, q2⟩
    dsimp only
    refine C_seq ?_
    refine C_region rfl ?_
    refine T_pv rfl (pv_lss rfl rfl) ?_
    refine T_nil ?_
    refine N_then ?_
    refine C_seq ?_
    refine C_cond rfl (fun hb_5 => ?_) (fun hb_5 => ?_)
    · -- decide (i < (a.length : Int)) = true
      have hx_6 := of_decide_eq_true hb_5
      refine C_skip ?_
      refine N_then ?_
      refine C_seq ?_
      refine C_block ?_
      refine C_seq ?_
      refine C_region rfl ?_
      refine T_pv rfl (pv_move rfl) ?_
      obtain ⟨us_7, hk_8, he_9⟩ := RdA.elt ha (i := i) (by omega) (by omega)
      obtain ⟨A_10, c_11, rfl, h_12, h_13, h_14⟩ := hk_8
      have hq_15 := InR.i64 h_12
      have hq_16 := InR.i64 h_13
      have hb_17 := h_14.bd
      refine T_pv rfl (pv_idx ha rfl rfl el51 sz53 (by omega) (by omega)) ?_
      refine T_pv rfl (pv_load_aggE (cs := [.int .i64 ((a.getD (i).toNat default).len), .int .i64 ((a.getD (i).toNat default).order), .bool ((a.getD (i).toNat default).down), .bool ((a.getD (i).toNat default).fine), .slice A_10 (((a.getD (i).toNat default).coefs).length) c_11]) rfl ag53 sz53 (he_9 _ _ (ImLe.refl _))) ?_
      refine T_cons (op_alloc (cs := [.int .i64 0, .int .i64 0, .bool false, .bool false, .slice none 0 0]) (lt_of rfl) 101 zr53 rfl fun g_18 => ?_)
      refine T_pv rfl (pv_assign rfl) ?_
      refine T_cons (op_store_any (vs := [.int .i64 ((a.getD (i).toNat default).len), .int .i64 ((a.getD (i).toNat default).order), .bool ((a.getD (i).toNat default).down), .bool ((a.getD (i).toNat default).fine), .slice A_10 (((a.getD (i).toNat default).coefs).length) c_11]) (cs' := [.int .i64 ((a.getD (i).toNat default).len), .int .i64 ((a.getD (i).toNat default).order), .bool ((a.getD (i).toNat default).down), .bool ((a.getD (i).toNat default).fine), .slice A_10 (((a.getD (i).toNat default).coefs).length) c_11]) 101 rfl rfl rfl sz53 (by simp [Value.oneCell']) rfl (Nat.le_of_ble_eq_true rfl) rfl ?_)
      refine T_nil ?_
      refine N_then ?_
      refine C_seq ?_
      refine C_region rfl ?_
      refine T_pv rfl (pv_move rfl) ?_
      refine T_pv rfl (pv_move rfl) ?_
      obtain ⟨us_19, hk_20, he_21⟩ := RdA.elt hb (i := i) (by omega) (by omega)
      obtain ⟨A_22, c_23, rfl, h_24, h_25, h_26⟩ := hk_20
      have hq_27 := InR.i64 h_24
      have hq_28 := InR.i64 h_25
      have hb_29 := h_26.bd
      refine T_pv rfl (pv_idx hb rfl rfl el51 sz53 (by omega) (by omega)) ?_
      refine T_pv rfl (pv_load_aggE (cs := [.int .i64 ((b.getD (i).toNat default).len), .int .i64 ((b.getD (i).toNat default).order), .bool ((b.getD (i).toNat default).down), .bool ((b.getD (i).toNat default).fine), .slice A_22 (((b.getD (i).toNat default).coefs).length) c_23]) rfl ag53 sz53 (he_21 _ _ (ImLe.refl _))) ?_
      refine T_cons (op_alloc (cs := [.int .i64 0, .int .i64 0, .bool false, .bool false, .slice none 0 0]) (lt_of rfl) 102 zr53 rfl fun g_30 => ?_)
      refine T_cons (op_store_any (vs := [.int .i64 ((b.getD (i).toNat default).len), .int .i64 ((b.getD (i).toNat default).order), .bool ((b.getD (i).toNat default).down), .bool ((b.getD (i).toNat default).fine), .slice A_22 (((b.getD (i).toNat default).coefs).length) c_23]) (cs' := [.int .i64 ((b.getD (i).toNat default).len), .int .i64 ((b.getD (i).toNat default).order), .bool ((b.getD (i).toNat default).down), .bool ((b.getD (i).toNat default).fine), .slice A_22 (((b.getD (i).toNat default).coefs).length) c_23]) 102 rfl rfl rfl sz53 (by simp [Value.oneCell']) rfl (Nat.le_of_ble_eq_true rfl) rfl ?_)
      refine T_nil ?_
      refine N_then ?_
      refine C_seq ?_
      refine C_region rfl ?_
      refine T_pv rfl (pv_move rfl) ?_
      refine T_pv rfl (pv_load_agg (cs := [.int .i64 ((a.getD (i).toNat default).len), .int .i64 ((a.getD (i).toNat default).order), .bool ((a.getD (i).toNat default).down), .bool ((a.getD (i).toNat default).fine), .slice A_10 (((a.getD (i).toNat default).coefs).length) c_11]) rfl ag53 sz53 rfl ⟨Cell.blk 101 rfl rfl, Cell.blk 101 rfl rfl, Cell.blk 101 rfl rfl, Cell.blk 101 rfl rfl, Cell.blk 101 rfl rfl, trivial⟩) ?_
      refine T_pv rfl (pv_load_agg (cs := [.int .i64 ((b.getD (i).toNat default).len), .int .i64 ((b.getD (i).toNat default).order), .bool ((b.getD (i).toNat default).down), .bool ((b.getD (i).toNat default).fine), .slice A_22 (((b.getD (i).toNat default).coefs).length) c_23]) rfl ag53 sz53 rfl ⟨Cell.blk 102 rfl rfl, Cell.blk 102 rfl rfl, Cell.blk 102 rfl rfl, Cell.blk 102 rfl rfl, Cell.blk 102 rfl rfl, trivial⟩) ?_
      refine T_cons (op_call (fun _ h => by cases h; exact lt_of rfl) rfl rfl rfl heq (hfq _ _ _ _ ⟨_, _, rfl, h_12, h_13, h_14⟩ ⟨_, _, rfl, h_24, h_25, h_26⟩) [] trivial (by simp) (by decide) ?_)
      rintro v_33 S_31 L_34 ⟨rfl, rfl, rfl⟩ hle_32
      refine ⟨rfl, ?_⟩
      refine T_pv rfl (pv_not rfl) ?_
      refine T_nil ?_
      refine N_then ?_
      refine C_cond rfl (fun hb_35 => ?_) (fun hb_35 => ?_)
      · -- !(decide (a.getD (i).toNat default = b.getD (i).toNat default)) = true
        have hn_36 : (decide (a.getD (i).toNat default = b.getD (i).toNat default)) = false := by simpa using hb_35
        have hx_37 := of_decide_eq_false hn_36
        refine C_seq ?_
        refine C_region rfl ?_
        refine T_pv rfl (pv_assign rfl) ?_
        refine T_nil ?_
        refine N_then ?_
        refine C_ret0 ?_
        refine R_block ?_
        refine R_then ?_
        refine R_loop ?_
        refine R_block ?_
        refine R_then ?_
        -- ret 1: .bool false
        refine Q_ret (vs := [.bool false]) ⟨rfl, trivial⟩ (L' := []) [] trivial (by simp) (by decide) (⟨false, rfl, rfl, rfl, ?_⟩)
        · exact (eqL_at (by simpa using hx_37)).symm
      · -- !(decide (a.getD (i).toNat default = b.getD (i).toNat default)) = false
        have hn_38 : (decide (a.getD (i).toNat default = b.getD (i).toNat default)) = true := by simpa using hb_35
        have hx_39 := of_decide_eq_true hn_38
        refine C_skip ?_
        refine N_block ?_
        refine N_then ?_
        refine C_region rfl ?_
        have hr_40 : InR .i64 (i + 1) := inR_i64 (by omega) (by omega)
        refine T_pv rfl (pv_add rfl rfl hr_40) ?_
        refine T_pv rfl (pv_move rfl) ?_
        refine T_nil ?_
        refine N_next (i + 1) ⟨by omega, by omega, eqL_next (by omega) (by omega) (by omega) q2 (by simpa using hx_39)⟩ (by first | omega | (dsimp only; omega)) rfl trivial ⟨rfl, rfl, rfl, rfl, rfl, rfl, rfl, rfl, rfl, rfl, rfl, trivial⟩
    · -- decide (i < (a.length : Int)) = false
      have hx_41 := of_decide_eq_false hb_5
      refine C_exit ?_
      refine X_then ?_
      refine X_loop ?_
      refine X_block ?_
      refine N_then ?_
      refine C_seq ?_
      refine C_region rfl ?_
      refine T_pv rfl (pv_assign rfl) ?_
      refine T_nil ?_
      refine N_then ?_
      refine C_ret0 ?_
      -- ret 2: .bool true
      refine Q_ret (vs := [.bool true]) ⟨rfl, trivial⟩ (L' := []) [] trivial (by simp) (by decide) (⟨true, rfl, rfl, rfl, ?_⟩)
      · exact (eqL_all (by omega) (by omega) q2).symm

set_option maxRecDepth 100000 in
theorem f_EqFFF (S : Im) (Aa : Option Addr) (ca : Nat) (a : List (List GFilter)) (ha : RdA (kSl kGFilter) S Aa ca a) (Ab : Option Addr) (cb : Nat) (b : List (List GFilter)) (hb : RdA (kSl kGFilter) S Ab cb b) (fq : FuncId) (csq : List Value) (heq : ∀ args w, (callFunc fq args).run Try.prog w = .ok (.enter fq args) w) (hfq : ∀ (A : Option Addr) (c : Nat) (x : (List GFilter)) (B : Option Addr) (e : Nat) (y : (List GFilter)), RdA kGFilter S A c x → RdA kGFilter S B e y → Fn Try.prog fq (.slice A x.length c :: .slice B y.length e :: csq) S [] fun v S' L' => v = .bool (decide (x = y)) ∧ S = S' ∧ L' = []) : Fn Try.prog 32 [.slice Aa a.length ca, .slice Ab b.length cb, .func (.func fq) #[] csq.toArray] S [] fun v S' L' => ∃ (r0 : Bool), v = .bool r0 ∧ S = S' ∧ L' = [] ∧ (decide (a = b)) = r0 := by
  have hb_a := ha.bd
  have hb_b := hb.bd
  refine Fn_intro 32 Try.func32 rfl rfl rfl fun w0 => ?_
  refine C_seq ?_
  refine C_region rfl ?_
  refine T_pv rfl (pv_assign rfl) ?_
  refine T_nil ?_
  refine N_then ?_
  refine C_seq ?_
  refine C_seq ?_
  refine C_region rfl ?_
  refine T_pv rfl (pv_move rfl) ?_
  refine T_pv rfl (pv_len rfl el35) ?_
  refine T_pv rfl (pv_move rfl) ?_
  refine T_pv rfl (pv_len rfl el35) ?_
  refine T_pv rfl (pv_nei rfl rfl) ?_
  refine T_nil ?_
  refine N_then ?_
  refine C_cond rfl (fun hb_1 => ?_) (fun hb_1 => ?_)
  · -- decide ((a.length : Int) ≠ (b.length : Int)) = true
    have hx_2 := of_decide_eq_true hb_1
    refine C_seq ?_
    refine C_region rfl ?_
    refine T_pv rfl (pv_assign rfl) ?_
    refine T_nil ?_
    refine N_then ?_
    refine C_ret0 ?_
    refine R_then ?_
    -- ret 0: .bool false
    refine Q_ret (vs := [.bool false]) ⟨rfl, trivial⟩ (L' := []) [] trivial (by simp) (by decide) (⟨false, rfl, rfl, rfl, ?_⟩)
    · exact (eqL_len hx_2).symm
  · -- decide ((a.length : Int) ≠ (b.length : Int)) = false
    have hx_3 := of_decide_eq_false hb_1
    refine C_skip ?_
    refine N_then ?_
    refine C_seq ?_
    refine C_seq ?_
    refine C_region rfl ?_
    refine T_pv rfl (pv_move rfl) ?_
    refine T_pv rfl (pv_len rfl el35) ?_
    refine T_pv rfl (pv_move rfl) ?_
    refine T_nil ?_
    refine N_then ?_
    refine C_block ?_
    refine C_loop (fun (x : Int) => (S, [], [(0, .slice Aa a.length ca), (1, .slice Ab b.length cb), (2, .func (.func fq) #[] csq.toArray), (10, .slice Aa a.length ca), (11, .int .i64 (a.length : Int)), (12, .slice Ab b.length cb), (13, .int .i64 (b.length : Int)), (14, .bool (decide ((a.length : Int) ≠ (b.length : Int)))), (15, .slice Aa a.length ca), (16, .int .i64 (a.length : Int)), (17, .int .i64 x)])) (fun (x : Int) => 0 ≤ x ∧ x ≤ a.length ∧ a.take (x).toNat = b.take (x).toNat) (fun (x : Int) => (a.length - x).toNat) (0) ⟨by omega, by omega, by simp⟩ rfl trivial ⟨rfl, rfl, rfl, rfl, rfl, rfl, rfl, rfl, rfl, rfl, rfl, trivial⟩ ?_
    rintro i ⟨q0, q1, q2⟩
    dsimp only
    refine C_seq ?_
    refine C_region rfl ?_
    refine T_pv rfl (pv_lss rfl rfl) ?_
    refine T_nil ?_
    refine N_then ?_
    refine C_seq ?_
    refine C_cond rfl (fun hb_5 => ?_) (fun hb_5 => ?_)
    · -- decide (i < (a.length : Int)) = true
      have hx_6 := of_decide_eq_true hb_5
      refine C_skip ?_
      refine N_then ?_
      refine C_seq ?_
      refine C_block ?_
      refine C_seq ?_
      refine C_region rfl ?_
      refine T_pv rfl (pv_move rfl) ?_
      obtain ⟨us_7, hk_8, he_9⟩ := RdA.elt ha (i := i) (by omega) (by omega)
      obtain ⟨A_10, c_11, rfl, h_12⟩ := hk_8
      have hb_13 := h_12.bd
      refine T_pv rfl (pv_idx ha rfl rfl el35 sz51 (by omega) (by omega)) ?_
      refine T_pv rfl (pv_load rfl ag51 ((he_9 _ _ (ImLe.refl _)).zero rfl)) ?_
      refine T_pv rfl (pv_assign rfl) ?_
      refine T_pv rfl (pv_assign rfl) ?_
      refine T_nil ?_
      refine N_then ?_
      refine C_seq ?_
      refine C_region rfl ?_
      refine T_pv rfl (pv_move rfl) ?_
      refine T_pv rfl (pv_move rfl) ?_
      obtain ⟨us_14, hk_15, he_16⟩ := RdA.elt hb (i := i) (by omega) (by omega)
      obtain ⟨A_17, c_18, rfl, h_19⟩ := hk_15
      have hb_20 := h_19.bd
      refine T_pv rfl (pv_idx hb rfl rfl el35 sz51 (by omega) (by omega)) ?_
      refine T_pv rfl (pv_load rfl ag51 ((he_16 _ _ (ImLe.refl _)).zero rfl)) ?_
      refine T_pv rfl (pv_assign rfl) ?_
      refine T_nil ?_
      refine N_then ?_
      refine C_seq ?_
      refine C_region rfl ?_
      refine T_pv rfl (pv_move rfl) ?_
      refine T_pv rfl (pv_move rfl) ?_
      refine T_pv rfl (pv_move rfl) ?_
      refine T_cons (op_call (fun _ h => by cases h; exact lt_of rfl) rfl rfl rfl heq (hfq _ _ (a.getD (i).toNat default) _ _ (b.getD (i).toNat default) h_12 h_19) [] trivial (by simp) (by decide) ?_)
      rintro v_23 S_21 L_24 ⟨rfl, rfl, rfl⟩ hle_22
      refine ⟨rfl, ?_⟩
      refine T_pv rfl (pv_not rfl) ?_
      refine T_nil ?_
      refine N_then ?_
      refine C_cond rfl (fun hb_25 => ?_) (fun hb_25 => ?_)
      · -- !(decide (a.getD (i).toNat default = b.getD (i).toNat default)) = true
        have hn_26 : (decide (a.getD (i).toNat default = b.getD (i).toNat default)) = false := by simpa using hb_25
        have hx_27 := of_decide_eq_false hn_26
        refine C_seq ?_
        refine C_region rfl ?_
        refine T_pv rfl (pv_assign rfl) ?_
        refine T_nil ?_
        refine N_then ?_
        refine C_ret0 ?_
        refine R_block ?_
        refine R_then ?_
        refine R_loop ?_
        refine R_block ?_
        refine R_then ?_
        -- ret 1: .bool false
        refine Q_ret (vs := [.bool false]) ⟨rfl, trivial⟩ (L' := []) [] trivial (by simp) (by decide) (⟨false, rfl, rfl, rfl, ?_⟩)
        · exact (eqL_at (by simpa using hx_27)).symm
      · -- !(decide (a.getD (i).toNat default = b.getD (i).toNat default)) = false
        have hn_28 : (decide (a.getD (i).toNat default = b.getD (i).toNat default)) = true := by simpa using hb_25
        have hx_29 := of_decide_eq_true hn_28
        refine C_skip ?_
        refine N_block ?_
        refine N_then ?_
        refine C_region rfl ?_
        have hr_30 : InR .i64 (i + 1) := inR_i64 (by omega) (by omega)
        refine T_pv rfl (pv_add rfl rfl hr_30) ?_
        refine T_pv rfl (pv_move rfl) ?_
        refine T_nil ?_
        refine N_next (i + 1) ⟨by omega, by omega, eqL_next (by omega) (by omega) (by omega) q2 (by simpa using hx_29)⟩ (by first | omega | (dsimp only; omega)) rfl trivial ⟨rfl, rfl, rfl, rfl, rfl, rfl, rfl, rfl, rfl, rfl, rfl, trivial⟩
    · -- decide (i < (a.length : Int)) = false
      have hx_31 := of_decide_eq_false hb_5
      refine C_exit ?_
      refine X_then ?_
      refine X_loop ?_
      refine X_block ?_
      refine N_then ?_
      refine C_seq ?_
      refine C_region rfl ?_
      refine T_pv rfl (pv_assign rfl) ?_
      refine T_nil ?_
      refine N_then ?_
      refine C_ret0 ?_
      -- ret 2: .bool true
      refine Q_ret (vs := [.bool true]) ⟨rfl, trivial⟩ (L' := []) [] trivial (by simp) (by decide) (⟨true, rfl, rfl, rfl, ?_⟩)
      · exact (eqL_all (by omega) (by omega) q2).symm

set_option maxRecDepth 100000 in
theorem f_lane_Same1 (S : Im) (Aa : Option Addr) (ca : Nat) (a : List GFilter) (ha : RdA kGFilter S Aa ca a) (Ab : Option Addr) (cb : Nat) (b : List GFilter) (hb : RdA kGFilter S Ab cb b) : Fn Try.prog 33 [.slice Aa a.length ca, .slice Ab b.length cb] S [] fun v S' L' => ∃ (r0 : Bool), v = .bool r0 ∧ S = S' ∧ L' = [] ∧ (decide (a = b)) = r0 := by
  have hb_a := ha.bd
  have hb_b := hb.bd
  refine Fn_intro 8 Try.func33 rfl rfl rfl fun w0 => ?_
  refine C_seq ?_
  refine C_region rfl ?_
  refine T_pv rfl (pv_assign rfl) ?_
  refine T_nil ?_
  refine N_then ?_
  refine C_seq ?_
  refine C_region rfl ?_
  refine T_pv rfl (pv_move rfl) ?_
  refine T_pv rfl (pv_move rfl) ?_
  refine T_cons (op_call (fun _ h => by cases h; exact lt_of rfl) rfl rfl rfl en34 (f_EqFF _ _ _ a ha _ _ b hb 35 [] en35 (fun us vs xa xb ha hb => by obtain ⟨Aa4, ca4, rfl, ha0, ha1, ha4⟩ := ha; obtain ⟨Ab4, cb4, rfl, hb0, hb1, hb4⟩ := hb; exact Fn.mono (f_lane_alike _ xa ha0 ha1 _ _ ha4 xb hb0 hb1 _ _ hb4) fun v S' L' ⟨r0, h1, h2, h3, h4⟩ => ⟨by rw [h1, ← h4], h2, h3⟩)) [] trivial (by simp) (by decide) ?_)
  rintro v_4 S_2 L_5 ⟨r_1, rfl, rfl, rfl, rfl⟩ hle_3
  refine ⟨rfl, ?_⟩
  refine T_pv rfl (pv_assign rfl) ?_
  refine T_nil ?_
  refine N_then ?_
  refine C_ret0 ?_
  -- ret 0: .bool (decide (a = b))
  refine Q_ret (vs := [.bool (decide (a = b))]) ⟨rfl, trivial⟩ (L' := []) [] trivial (by simp) (by decide) (⟨decide (a = b), rfl, rfl, rfl, ?_⟩)
  · first | rfl | (simp [*]; done) | (simp_all; done)

set_option maxRecDepth 100000 in
theorem f_lane_Same (S : Im) (a : GChan) (ha0 : InR .i64 a.gain) (ha1 : InR .u8 a.info.seq) (ha2 : InR .u8 a.info.shape) (ha3 : InR .i64 a.info.max) (Aa4 : Option Addr) (ca4 : Nat) (ha4 : RdA (kInt .i64) S Aa4 ca4 a.info.groups) (Aa5 : Option Addr) (ca5 : Nat) (ha5 : RdA (kSl kGSection) S Aa5 ca5 a.sections) (Aa6 : Option Addr) (ca6 : Nat) (ha6 : RdA (kSl (kInt .i64)) S Aa6 ca6 a.steps) (Aa7 : Option Addr) (ca7 : Nat) (ha7 : RdA (kSl kGFilter) S Aa7 ca7 a.tns) (Aa8 : Option Addr) (ca8 : Nat) (ha8 : RdA (kInt .i64) S Aa8 ca8 a.lines) (b : GChan) (hb0 : InR .i64 b.gain) (hb1 : InR .u8 b.info.seq) (hb2 : InR .u8 b.info.shape) (hb3 : InR .i64 b.info.max) (Ab4 : Option Addr) (cb4 : Nat) (hb4 : RdA (kInt .i64) S Ab4 cb4 b.info.groups) (Ab5 : Option Addr) (cb5 : Nat) (hb5 : RdA (kSl kGSection) S Ab5 cb5 b.sections) (Ab6 : Option Addr) (cb6 : Nat) (hb6 : RdA (kSl (kInt .i64)) S Ab6 cb6 b.steps) (Ab7 : Option Addr) (cb7 : Nat) (hb7 : RdA (kSl kGFilter) S Ab7 cb7 b.tns) (Ab8 : Option Addr) (cb8 : Nat) (hb8 : RdA (kInt .i64) S Ab8 cb8 b.lines) : Fn Try.prog 17 [.agg #[.int .i64 a.gain, .int .u8 a.info.seq, .int .u8 a.info.shape, .int .i64 a.info.max, .slice Aa4 a.info.groups.length ca4, .slice Aa5 a.sections.length ca5, .slice Aa6 a.steps.length ca6, .slice Aa7 a.tns.length ca7, .slice Aa8 a.lines.length ca8], .agg #[.int .i64 b.gain, .int .u8 b.info.seq, .int .u8 b.info.shape, .int .i64 b.info.max, .slice Ab4 b.info.groups.length cb4, .slice Ab5 b.sections.length cb5, .slice Ab6 b.steps.length cb6, .slice Ab7 b.tns.length cb7, .slice Ab8 b.lines.length cb8]] S [] fun v S' L' => ∃ (r0 : Bool), v = .bool r0 ∧ S = S' ∧ L' = [] ∧ (decide (a = b)) = r0 := by
  have hb_a0 := InR.i64 ha0
  have hb_a1 := InR.u8 ha1
  have hb_a2 := InR.u8 ha2
  have hb_a3 := InR.i64 ha3
  have hb_a4 := ha4.bd
  have hb_a5 := ha5.bd
  have hb_a6 := ha6.bd
  have hb_a7 := ha7.bd
  have hb_a8 := ha8.bd
  have hb_b0 := InR.i64 hb0
  have hb_b1 := InR.u8 hb1
  have hb_b2 := InR.u8 hb2
  have hb_b3 := InR.i64 hb3
  have hb_b4 := hb4.bd
  have hb_b5 := hb5.bd
  have hb_b6 := hb6.bd
  have hb_b7 := hb7.bd
  have hb_b8 := hb8.bd
  refine Fn_intro 49 Try.func17 rfl rfl rfl fun w0 => ?_
  refine C_seq ?_
  refine C_region rfl ?_
  refine T_cons (op_box (cs := [.int .i64 a.gain, .int .u8 a.info.seq, .int .u8 a.info.shape, .int .i64 a.info.max, .slice Aa4 a.info.groups.length ca4, .slice Aa5 a.sections.length ca5, .slice Aa6 a.steps.length ca6, .slice Aa7 a.tns.length ca7, .slice Aa8 a.lines.length ca8]) (lt_of rfl) 101 rfl rfl fun g_1 => ?_)
  refine T_cons (op_box (cs := [.int .i64 b.gain, .int .u8 b.info.seq, .int .u8 b.info.shape, .int .i64 b.info.max, .slice Ab4 b.info.groups.length cb4, .slice Ab5 b.sections.length cb5, .slice Ab6 b.steps.length cb6, .slice Ab7 b.tns.length cb7, .slice Ab8 b.lines.length cb8]) (lt_of rfl) 102 rfl rfl fun g_2 => ?_)
  refine T_pv rfl (pv_assign rfl) ?_
  refine T_nil ?_
  refine N_then ?_
  refine C_seq ?_
  refine C_region rfl ?_
  refine T_pv rfl (pv_fieldAddr rfl fl_37_0) ?_
  refine T_pv rfl (pv_load rfl ag3 (Cell.blk 101 rfl rfl)) ?_
  refine T_pv rfl (pv_fieldAddr rfl fl_37_0) ?_
  refine T_pv rfl (pv_load rfl ag3 (Cell.blk 102 rfl rfl)) ?_
  refine T_pv rfl (pv_eqi rfl rfl) ?_
  refine T_pv rfl (pv_move rfl) ?_
  refine T_gs (dj := 12) rfl (fun hb_3 => ?_) (fun hb_3 => ?_)
  · -- decide (a.gain = b.gain) = true
    have hx_4 := of_decide_eq_true hb_3
    refine T_gy rfl rfl hb_3 rfl (pv_fieldAddr rfl fl_37_1) ?_
    refine T_gy rfl rfl hb_3 rfl (pv_load_agg (cs := [.int .u8 a.info.seq, .int .u8 a.info.shape, .int .i64 a.info.max, .slice Aa4 a.info.groups.length ca4]) rfl ag32 sz32 rfl ⟨Cell.blk 101 rfl rfl, Cell.blk 101 rfl rfl, Cell.blk 101 rfl rfl, Cell.blk 101 rfl rfl, trivial⟩) ?_
    refine T_gy rfl rfl hb_3 rfl (pv_fieldAddr rfl fl_37_1) ?_
    refine T_gy rfl rfl hb_3 rfl (pv_load_agg (cs := [.int .u8 b.info.seq, .int .u8 b.info.shape, .int .i64 b.info.max, .slice Ab4 b.info.groups.length cb4]) rfl ag32 sz32 rfl ⟨Cell.blk 102 rfl rfl, Cell.blk 102 rfl rfl, Cell.blk 102 rfl rfl, Cell.blk 102 rfl rfl, trivial⟩) ?_
    refine T_gyo rfl rfl hb_3 (op_call (fun _ h => by cases h; exact lt_of rfl) rfl rfl rfl en27 (f_info_Same _ a.info ha1 ha2 ha3 _ _ ha4 b.info hb1 hb2 hb3 _ _ hb4) [] trivial (by simp) (by decide) ?_)
    rintro v_8 S_6 L_9 ⟨r_5, rfl, rfl, rfl, rfl⟩ hle_7
    refine ⟨rfl, ?_⟩
    refine T_pv rfl (pv_pick_t rfl hb_3 rfl) ?_
    refine T_pv rfl (pv_move rfl) ?_
    refine T_gs (dj := 19) rfl (fun hb_10 => ?_) (fun hb_10 => ?_)
    · -- decide (a.info = b.info) = true
      have hx_11 := of_decide_eq_true hb_10
      refine T_gy rfl rfl hb_10 rfl (pv_fieldAddr rfl fl_37_5) ?_
      refine T_gy rfl rfl hb_10 rfl (pv_load rfl ag30 (Cell.blk 101 rfl rfl)) ?_
      refine T_gy rfl rfl hb_10 rfl (pv_fieldAddr rfl fl_37_5) ?_
      refine T_gy rfl rfl hb_10 rfl (pv_load rfl ag30 (Cell.blk 102 rfl rfl)) ?_
      refine T_gyo rfl rfl hb_10 (op_call (fun _ h => by cases h; exact lt_of rfl) rfl rfl rfl en28 (f_EqualI _ _ _ a.lines ha8 _ _ b.lines hb8) [] trivial (by simp) (by decide) ?_)
      rintro v_15 S_13 L_16 ⟨r_12, rfl, rfl, rfl, rfl⟩ hle_14
      refine ⟨rfl, ?_⟩
      refine T_pv rfl (pv_pick_t rfl hb_10 rfl) ?_
      refine T_pv rfl (pv_assign rfl) ?_
      refine T_nil ?_
      refine N_then ?_
      refine C_seq ?_
      refine C_region rfl ?_
      refine T_pv rfl (pv_fieldAddr rfl fl_37_2) ?_
      refine T_pv rfl (pv_load rfl ag33 (Cell.blk 101 rfl rfl)) ?_
      refine T_pv rfl (pv_fieldAddr rfl fl_37_2) ?_
      refine T_pv rfl (pv_load rfl ag33 (Cell.blk 102 rfl rfl)) ?_
      refine T_cons (op_call (fun _ h => by cases h; exact lt_of rfl) rfl rfl rfl en29 (f_EqFS _ _ _ a.sections ha5 _ _ b.sections hb5 30 [] en30 (fun A c x B e y hx hy => Fn.mono (f_EqualS _ _ _ x hx _ _ y hy) fun v S' L' ⟨r0, h1, h2, h3, h4⟩ => ⟨by rw [h1, ← h4], h2, h3⟩)) [] trivial (by simp) (by decide) ?_)
      rintro v_20 S_18 L_21 ⟨r_17, rfl, rfl, rfl, rfl⟩ hle_19
      refine ⟨rfl, ?_⟩
      refine T_pv rfl (pv_move rfl) ?_
      refine T_gs (dj := 31) rfl (fun hb_22 => ?_) (fun hb_22 => ?_)
      · -- decide (a.sections = b.sections) = true
        have hx_23 := of_decide_eq_true hb_22
        refine T_gy rfl rfl hb_22 rfl (pv_fieldAddr rfl fl_37_3) ?_
        refine T_gy rfl rfl hb_22 rfl (pv_load rfl ag34 (Cell.blk 101 rfl rfl)) ?_
        refine T_gy rfl rfl hb_22 rfl (pv_fieldAddr rfl fl_37_3) ?_
        refine T_gy rfl rfl hb_22 rfl (pv_load rfl ag34 (Cell.blk 102 rfl rfl)) ?_
        refine T_gyo rfl rfl hb_22 (op_call (fun _ h => by cases h; exact lt_of rfl) rfl rfl rfl en31 (f_EqFI _ _ _ a.steps ha6 _ _ b.steps hb6 28 [] en28 (fun A c x B e y hx hy => Fn.mono (f_EqualI _ _ _ x hx _ _ y hy) fun v S' L' ⟨r0, h1, h2, h3, h4⟩ => ⟨by rw [h1, ← h4], h2, h3⟩)) [] trivial (by simp) (by decide) ?_)
        rintro v_27 S_25 L_28 ⟨r_24, rfl, rfl, rfl, rfl⟩ hle_26
        refine ⟨rfl, ?_⟩
        refine T_pv rfl (pv_pick_t rfl hb_22 rfl) ?_
        refine T_pv rfl (pv_assign rfl) ?_
        refine T_nil ?_
        refine N_then ?_
        refine C_seq ?_
        refine C_region rfl ?_
        refine T_pv rfl (pv_move rfl) ?_
        refine T_pv rfl (pv_move rfl) ?_
        refine T_gs (dj := 39) rfl (fun hb_29 => ?_) (fun hb_29 => ?_)
        · -- decide (a.lines = b.lines) = true
          have hx_30 := of_decide_eq_true hb_29
          refine T_gy rfl rfl hb_29 rfl (pv_move rfl) ?_
          refine T_pv rfl (pv_pick_t rfl hb_29 rfl) ?_
          refine T_pv rfl (pv_move rfl) ?_
          refine T_gs (dj := 42) rfl (fun hb_31 => ?_) (fun hb_31 => ?_)
          · -- decide (a.steps = b.steps) = true
            have hx_32 := of_decide_eq_true hb_31
            refine T_gy rfl rfl hb_31 rfl (pv_fieldAddr rfl fl_37_4) ?_
            refine T_gy rfl rfl hb_31 rfl (pv_load rfl ag35 (Cell.blk 101 rfl rfl)) ?_
            refine T_gy rfl rfl hb_31 rfl (pv_fieldAddr rfl fl_37_4) ?_
            refine T_gy rfl rfl hb_31 rfl (pv_load rfl ag35 (Cell.blk 102 rfl rfl)) ?_
            refine T_gyo rfl rfl hb_31 (op_call (fun _ h => by cases h; exact lt_of rfl) rfl rfl rfl en32 (f_EqFFF _ _ _ a.tns ha7 _ _ b.tns hb7 33 [] en33 (fun A c x B e y hx hy => Fn.mono (f_lane_Same1 _ _ _ x hx _ _ y hy) fun v S' L' ⟨r0, h1, h2, h3, h4⟩ => ⟨by rw [h1, ← h4], h2, h3⟩)) [] trivial (by simp) (by decide) ?_)
            rintro v_36 S_34 L_37 ⟨r_33, rfl, rfl, rfl, rfl⟩ hle_35
            refine ⟨rfl, ?_⟩
            refine T_pv rfl (pv_pick_t rfl hb_31 rfl) ?_
            refine T_pv rfl (pv_assign rfl) ?_
            refine T_nil ?_
            refine N_then ?_
            refine C_ret0 ?_
            -- ret 0: .bool (decide (a.tns = b.tns))
            refine Q_ret (vs := [.bool (decide (a.tns = b.tns))]) ⟨rfl, trivial⟩ (L' := []) [] trivial (by simp) (by decide) (⟨decide (a.tns = b.tns), rfl, rfl, rfl, ?_⟩)
            · simp [GChan.eq_iff, hx_4, hx_11, hx_23, hx_30, hx_32]
          · -- decide (a.steps = b.steps) = false
            have hx_38 := of_decide_eq_false hb_31
            refine T_gn rfl rfl hb_31 rfl ?_
            refine T_gn rfl rfl hb_31 rfl ?_
            refine T_gn rfl rfl hb_31 rfl ?_
            refine T_gn rfl rfl hb_31 rfl ?_
            refine T_gn rfl rfl hb_31 rfl ?_
            refine T_pv rfl (pv_pick_f rfl hb_31 rfl) ?_
            refine T_pv rfl (pv_assign rfl) ?_
            refine T_nil ?_
            refine N_then ?_
            refine C_ret0 ?_
            -- ret 1: .bool false
            refine Q_ret (vs := [.bool false]) ⟨rfl, trivial⟩ (L' := []) [] trivial (by simp) (by decide) (⟨false, rfl, rfl, rfl, ?_⟩)
            · simp [GChan.eq_iff, hx_4, hx_11, hx_23, hx_30, hx_38]
        · -- decide (a.lines = b.lines) = false
          have hx_39 := of_decide_eq_false hb_29
          refine T_gn rfl rfl hb_29 rfl ?_
          refine T_pv rfl (pv_pick_f rfl hb_29 rfl) ?_
          refine T_pv rfl (pv_move rfl) ?_
          refine T_gn rfl rfl rfl rfl ?_
          refine T_gn rfl rfl rfl rfl ?_
          refine T_gn rfl rfl rfl rfl ?_
          refine T_gn rfl rfl rfl rfl ?_
          refine T_gn rfl rfl rfl rfl ?_
          refine T_pv rfl (pv_pick_f rfl rfl rfl) ?_
          refine T_pv rfl (pv_assign rfl) ?_
          refine T_nil ?_
          refine N_then ?_
          refine C_ret0 ?_
          -- ret 2: .bool false
          refine Q_ret (vs := [.bool false]) ⟨rfl, trivial⟩ (L' := []) [] trivial (by simp) (by decide) (⟨false, rfl, rfl, rfl, ?_⟩)
          · simp [GChan.eq_iff, hx_4, hx_11, hx_23, hx_39]
      · -- decide (a.sections = b.sections) = false
        have hx_40 := of_decide_eq_false hb_22
        refine T_gn rfl rfl hb_22 rfl ?_
        refine T_gn rfl rfl hb_22 rfl ?_
        refine T_gn rfl rfl hb_22 rfl ?_
        refine T_gn rfl rfl hb_22 rfl ?_
        refine T_gn rfl rfl hb_22 rfl ?_
        refine T_pv rfl (pv_pick_f rfl hb_22 rfl) ?_
        refine T_pv rfl (pv_assign rfl) ?_
        refine T_nil ?_
        refine N_then ?_
        refine C_seq ?_
        refine C_region rfl ?_
        refine T_pv rfl (pv_move rfl) ?_
        refine T_pv rfl (pv_move rfl) ?_
        refine T_gs (dj := 39) rfl (fun hb_41 => ?_) (fun hb_41 => ?_)
        · -- decide (a.lines = b.lines) = true
          have hx_42 := of_decide_eq_true hb_41
          refine T_gy rfl rfl hb_41 rfl (pv_move rfl) ?_
          refine T_pv rfl (pv_pick_t rfl hb_41 rfl) ?_
          refine T_pv rfl (pv_move rfl) ?_
          refine T_gn rfl rfl rfl rfl ?_
          refine T_gn rfl rfl rfl rfl ?_
          refine T_gn rfl rfl rfl rfl ?_
          refine T_gn rfl rfl rfl rfl ?_
          refine T_gn rfl rfl rfl rfl ?_
          refine T_pv rfl (pv_pick_f rfl rfl rfl) ?_
          refine T_pv rfl (pv_assign rfl) ?_
          refine T_nil ?_
          refine N_then ?_
          refine C_ret0 ?_
          -- ret 3: .bool false
          refine Q_ret (vs := [.bool false]) ⟨rfl, trivial⟩ (L' := []) [] trivial (by simp) (by decide) (⟨false, rfl, rfl, rfl, ?_⟩)
          · simp [GChan.eq_iff, hx_4, hx_11, hx_40, hx_42]
        · -- decide (a.lines = b.lines) = false
          have hx_43 := of_decide_eq_false hb_41
          refine T_gn rfl rfl hb_41 rfl ?_
          refine T_pv rfl (pv_pick_f rfl hb_41 rfl) ?_
          refine T_pv rfl (pv_move rfl) ?_
          refine T_gn rfl rfl rfl rfl ?_
          refine T_gn rfl rfl rfl rfl ?_
          refine T_gn rfl rfl rfl rfl ?_
          refine T_gn rfl rfl rfl rfl ?_
          refine T_gn rfl rfl rfl rfl ?_
          refine T_pv rfl (pv_pick_f rfl rfl rfl) ?_
          refine T_pv rfl (pv_assign rfl) ?_
          refine T_nil ?_
          refine N_then ?_
          refine C_ret0 ?_
          -- ret 4: .bool false
          refine Q_ret (vs := [.bool false]) ⟨rfl, trivial⟩ (L' := []) [] trivial (by simp) (by decide) (⟨false, rfl, rfl, rfl, ?_⟩)
          · simp [GChan.eq_iff, hx_4, hx_11, hx_40, hx_43]
    · -- decide (a.info = b.info) = false
      have hx_44 := of_decide_eq_false hb_10
      refine T_gn rfl rfl hb_10 rfl ?_
      refine T_gn rfl rfl hb_10 rfl ?_
      refine T_gn rfl rfl hb_10 rfl ?_
      refine T_gn rfl rfl hb_10 rfl ?_
      refine T_gn rfl rfl hb_10 rfl ?_
      refine T_pv rfl (pv_pick_f rfl hb_10 rfl) ?_
      refine T_pv rfl (pv_assign rfl) ?_
      refine T_nil ?_
      refine N_then ?_
      refine C_seq ?_
      refine C_region rfl ?_
      refine T_pv rfl (pv_fieldAddr rfl fl_37_2) ?_
      refine T_pv rfl (pv_load rfl ag33 (Cell.blk 101 rfl rfl)) ?_
      refine T_pv rfl (pv_fieldAddr rfl fl_37_2) ?_
      refine T_pv rfl (pv_load rfl ag33 (Cell.blk 102 rfl rfl)) ?_
      refine T_cons (op_call (fun _ h => by cases h; exact lt_of rfl) rfl rfl rfl en29 (f_EqFS _ _ _ a.sections ha5 _ _ b.sections hb5 30 [] en30 (fun A c x B e y hx hy => Fn.mono (f_EqualS _ _ _ x hx _ _ y hy) fun v S' L' ⟨r0, h1, h2, h3, h4⟩ => ⟨by rw [h1, ← h4], h2, h3⟩)) [] trivial (by simp) (by decide) ?_)
      rintro v_48 S_46 L_49 ⟨r_45, rfl, rfl, rfl, rfl⟩ hle_47
      refine ⟨rfl, ?_⟩
      refine T_pv rfl (pv_move rfl) ?_
      refine T_gs (dj := 31) rfl (fun hb_50 => ?_) (fun hb_50 => ?_)
      · -- decide (a.sections = b.sections) = true
        have hx_51 := of_decide_eq_true hb_50
        refine T_gy rfl rfl hb_50 rfl (pv_fieldAddr rfl fl_37_3) ?_
        refine T_gy rfl rfl hb_50 rfl (pv_load rfl ag34 (Cell.blk 101 rfl rfl)) ?_
        refine T_gy rfl rfl hb_50 rfl (pv_fieldAddr rfl fl_37_3) ?_
        refine T_gy rfl rfl hb_50 rfl (pv_load rfl ag34 (Cell.blk 102 rfl rfl)) ?_
        refine T_gyo rfl rfl hb_50 (op_call (fun _ h => by cases h; exact lt_of rfl) rfl rfl rfl en31 (f_EqFI _ _ _ a.steps ha6 _ _ b.steps hb6 28 [] en28 (fun A c x B e y hx hy => Fn.mono (f_EqualI _ _ _ x hx _ _ y hy) fun v S' L' ⟨r0, h1, h2, h3, h4⟩ => ⟨by rw [h1, ← h4], h2, h3⟩)) [] trivial (by simp) (by decide) ?_)
        rintro v_55 S_53 L_56 ⟨r_52, rfl, rfl, rfl, rfl⟩ hle_54
        refine ⟨rfl, ?_⟩
        refine T_pv rfl (pv_pick_t rfl hb_50 rfl) ?_
        refine T_pv rfl (pv_assign rfl) ?_
        refine T_nil ?_
        refine N_then ?_
        refine C_seq ?_
        refine C_region rfl ?_
        refine T_pv rfl (pv_move rfl) ?_
        refine T_pv rfl (pv_move rfl) ?_
        refine T_gn rfl rfl rfl rfl ?_
        refine T_pv rfl (pv_pick_f rfl rfl rfl) ?_
        refine T_pv rfl (pv_move rfl) ?_
        refine T_gn rfl rfl rfl rfl ?_
        refine T_gn rfl rfl rfl rfl ?_
        refine T_gn rfl rfl rfl rfl ?_
        refine T_gn rfl rfl rfl rfl ?_
        refine T_gn rfl rfl rfl rfl ?_
        refine T_pv rfl (pv_pick_f rfl rfl rfl) ?_
        refine T_pv rfl (pv_assign rfl) ?_
        refine T_nil ?_
        refine N_then ?_
        refine C_ret0 ?_
        -- ret 5: .bool false
        refine Q_ret (vs := [.bool false]) ⟨rfl, trivial⟩ (L' := []) [] trivial (by simp) (by decide) (⟨false, rfl, rfl, rfl, ?_⟩)
        · simp [GChan.eq_iff, hx_4, hx_44, hx_51]
      · -- decide (a.sections = b.sections) = false
        have hx_57 := of_decide_eq_false hb_50
        refine T_gn rfl rfl hb_50 rfl ?_
        refine T_gn rfl rfl hb_50 rfl ?_
        refine T_gn rfl rfl hb_50 rfl ?_
        refine T_gn rfl rfl hb_50 rfl ?_
        refine T_gn rfl rfl hb_50 rfl ?_
        refine T_pv rfl (pv_pick_f rfl hb_50 rfl) ?_
        refine T_pv rfl (pv_assign rfl) ?_
        refine T_nil ?_
        refine N_then ?_
        refine C_seq ?_
        refine C_region rfl ?_
        refine T_pv rfl (pv_move rfl) ?_
        refine T_pv rfl (pv_move rfl) ?_
        refine T_gn rfl rfl rfl rfl ?_
        refine T_pv rfl (pv_pick_f rfl rfl rfl) ?_
        refine T_pv rfl (pv_move rfl) ?_
        refine T_gn rfl rfl rfl rfl ?_
        refine T_gn rfl rfl rfl rfl ?_
        refine T_gn rfl rfl rfl rfl ?_
        refine T_gn rfl rfl rfl rfl ?_
        refine T_gn rfl rfl rfl rfl ?_
        refine T_pv rfl (pv_pick_f rfl rfl rfl) ?_
        refine T_pv rfl (pv_assign rfl) ?_
        refine T_nil ?_
        refine N_then ?_
        refine C_ret0 ?_
        -- ret 6: .bool false
        refine Q_ret (vs := [.bool false]) ⟨rfl, trivial⟩ (L' := []) [] trivial (by simp) (by decide) (⟨false, rfl, rfl, rfl, ?_⟩)
        · simp [GChan.eq_iff, hx_4, hx_44, hx_57]
  · -- decide (a.gain = b.gain) = false
    have hx_58 := of_decide_eq_false hb_3
    refine T_gn rfl rfl hb_3 rfl ?_
    refine T_gn rfl rfl hb_3 rfl ?_
    refine T_gn rfl rfl hb_3 rfl ?_
    refine T_gn rfl rfl hb_3 rfl ?_
    refine T_gn rfl rfl hb_3 rfl ?_
    refine T_pv rfl (pv_pick_f rfl hb_3 rfl) ?_
    refine T_pv rfl (pv_move rfl) ?_
    refine T_gn rfl rfl rfl rfl ?_
    refine T_gn rfl rfl rfl rfl ?_
    refine T_gn rfl rfl rfl rfl ?_
    refine T_gn rfl rfl rfl rfl ?_
    refine T_gn rfl rfl rfl rfl ?_
    refine T_pv rfl (pv_pick_f rfl rfl rfl) ?_
    refine T_pv rfl (pv_assign rfl) ?_
    refine T_nil ?_
    refine N_then ?_
    refine C_seq ?_
    refine C_region rfl ?_
    refine T_pv rfl (pv_fieldAddr rfl fl_37_2) ?_
    refine T_pv rfl (pv_load rfl ag33 (Cell.blk 101 rfl rfl)) ?_
    refine T_pv rfl (pv_fieldAddr rfl fl_37_2) ?_
    refine T_pv rfl (pv_load rfl ag33 (Cell.blk 102 rfl rfl)) ?_
    refine T_cons (op_call (fun _ h => by cases h; exact lt_of rfl) rfl rfl rfl en29 (f_EqFS _ _ _ a.sections ha5 _ _ b.sections hb5 30 [] en30 (fun A c x B e y hx hy => Fn.mono (f_EqualS _ _ _ x hx _ _ y hy) fun v S' L' ⟨r0, h1, h2, h3, h4⟩ => ⟨by rw [h1, ← h4], h2, h3⟩)) [] trivial (by simp) (by decide) ?_)
    rintro v_62 S_60 L_63 ⟨r_59, rfl, rfl, rfl, rfl⟩ hle_61
    refine ⟨rfl, ?_⟩
    refine T_pv rfl (pv_move rfl) ?_
    refine T_gs (dj := 31) rfl (fun hb_64 => ?_) (fun hb_64 => ?_)
    · -- decide (a.sections = b.sections) = true
      have hx_65 := of_decide_eq_true hb_64
      refine T_gy rfl rfl hb_64 rfl (pv_fieldAddr rfl fl_37_3) ?_
      refine T_gy rfl rfl hb_64 rfl (pv_load rfl ag34 (Cell.blk 101 rfl rfl)) ?_
      refine T_gy rfl rfl hb_64 rfl (pv_fieldAddr rfl fl_37_3) ?_
      refine T_gy rfl rfl hb_64 rfl (pv_load rfl ag34 (Cell.blk 102 rfl rfl)) ?_
      refine T_gyo rfl rfl hb_64 (op_call (fun _ h => by cases h; exact lt_of rfl) rfl rfl rfl en31 (f_EqFI _ _ _ a.steps ha6 _ _ b.steps hb6 28 [] en28 (fun A c x B e y hx hy => Fn.mono (f_EqualI _ _ _ x hx _ _ y hy) fun v S' L' ⟨r0, h1, h2, h3, h4⟩ => ⟨by rw [h1, ← h4], h2, h3⟩)) [] trivial (by simp) (by decide) ?_)
      rintro v_69 S_67 L_70 ⟨r_66, rfl, rfl, rfl, rfl⟩ hle_68
      refine ⟨rfl, ?_⟩
      refine T_pv rfl (pv_pick_t rfl hb_64 rfl) ?_
      refine T_pv rfl (pv_assign rfl) ?_
      refine T_nil ?_
      refine N_then ?_
      refine C_seq ?_
      refine C_region rfl ?_
      refine T_pv rfl (pv_move rfl) ?_
      refine T_pv rfl (pv_move rfl) ?_
      refine T_gn rfl rfl rfl rfl ?_
      refine T_pv rfl (pv_pick_f rfl rfl rfl) ?_
      refine T_pv rfl (pv_move rfl) ?_
      refine T_gn rfl rfl rfl rfl ?_
      refine T_gn rfl rfl rfl rfl ?_
      refine T_gn rfl rfl rfl rfl ?_
      refine T_gn rfl rfl rfl rfl ?_
      refine T_gn rfl rfl rfl rfl ?_
      refine T_pv rfl (pv_pick_f rfl rfl rfl) ?_
      refine T_pv rfl (pv_assign rfl) ?_
      refine T_nil ?_
      refine N_then ?_
      refine C_ret0 ?_
      -- ret 7: .bool false
      refine Q_ret (vs := [.bool false]) ⟨rfl, trivial⟩ (L' := []) [] trivial (by simp) (by decide) (⟨false, rfl, rfl, rfl, ?_⟩)
      · simp [GChan.eq_iff, hx_58, hx_65]
    · -- decide (a.sections = b.sections) = false
      have hx_71 := of_decide_eq_false hb_64
      refine T_gn rfl rfl hb_64 rfl ?_
      refine T_gn rfl rfl hb_64 rfl ?_
      refine T_gn rfl rfl hb_64 rfl ?_
      refine T_gn rfl rfl hb_64 rfl ?_
      refine T_gn rfl rfl hb_64 rfl ?_
      refine T_pv rfl (pv_pick_f rfl hb_64 rfl) ?_
      refine T_pv rfl (pv_assign rfl) ?_
      refine T_nil ?_
      refine N_then ?_
      refine C_seq ?_
      refine C_region rfl ?_
      refine T_pv rfl (pv_move rfl) ?_
      refine T_pv rfl (pv_move rfl) ?_
      refine T_gn rfl rfl rfl rfl ?_
      refine T_pv rfl (pv_pick_f rfl rfl rfl) ?_
      refine T_pv rfl (pv_move rfl) ?_
      refine T_gn rfl rfl rfl rfl ?_
      refine T_gn rfl rfl rfl rfl ?_
      refine T_gn rfl rfl rfl rfl ?_
      refine T_gn rfl rfl rfl rfl ?_
      refine T_gn rfl rfl rfl rfl ?_
      refine T_pv rfl (pv_pick_f rfl rfl rfl) ?_
      refine T_pv rfl (pv_assign rfl) ?_
      refine T_nil ?_
      refine N_then ?_
      refine C_ret0 ?_
      -- ret 8: .bool false
      refine Q_ret (vs := [.bool false]) ⟨rfl, trivial⟩ (L' := []) [] trivial (by simp) (by decide) (⟨false, rfl, rfl, rfl, ?_⟩)
      · simp [GChan.eq_iff, hx_58, hx_71]

set_option maxRecDepth 100000 in
theorem f_EqFC (S : Im) (Aa : Option Addr) (ca : Nat) (a : List GChan) (ha : RdA kGChan S Aa ca a) (Ab : Option Addr) (cb : Nat) (b : List GChan) (hb : RdA kGChan S Ab cb b) (fq : FuncId) (csq : List Value) (heq : ∀ args w, (callFunc fq args).run Try.prog w = .ok (.enter fq args) w) (hfq : ∀ (us vs : List Value) (x y : GChan), kGChan.K S us x → kGChan.K S vs y → Fn Try.prog fq (.agg us.toArray :: .agg vs.toArray :: csq) S [] fun v S' L' => v = .bool (decide (x = y)) ∧ S = S' ∧ L' = []) : Fn Try.prog 16 [.slice Aa a.length ca, .slice Ab b.length cb, .func (.func fq) #[] csq.toArray] S [] fun v S' L' => ∃ (r0 : Bool), v = .bool r0 ∧ S = S' ∧ L' = [] ∧ (decide (a = b)) = r0 := by
  have hb_a := ha.bd
  have hb_b := hb.bd
  refine Fn_intro 32 Try.func16 rfl rfl rfl fun w0 => ?_
  refine C_seq ?_
  refine C_region rfl ?_
  refine T_pv rfl (pv_assign rfl) ?_
  refine T_nil ?_
  refine N_then ?_
  refine C_seq ?_
  refine C_seq ?_
  refine C_region rfl ?_
  refine T_pv rfl (pv_move rfl) ?_
  refine T_pv rfl (pv_len rfl el22) ?_
  refine T_pv rfl (pv_move rfl) ?_
  refine T_pv rfl (pv_len rfl el22) ?_
  refine T_pv rfl (pv_nei rfl rfl) ?_
  refine T_nil ?_
  refine N_then ?_
  refine C_cond rfl (fun hb_1 => ?_) (fun hb_1 => ?_)
  · -- decide ((a.length : Int) ≠ (b.length : Int)) = true
    have hx_2 := of_decide_eq_true hb_1
    refine C_seq ?_
    refine C_region rfl ?_
    refine T_pv rfl (pv_assign rfl) ?_
    refine T_nil ?_
    refine N_then ?_
    refine C_ret0 ?_
    refine R_then ?_
    -- ret 0: .bool false
    refine Q_ret (vs := [.bool false]) ⟨rfl, trivial⟩ (L' := []) [] trivial (by simp) (by decide) (⟨false, rfl, rfl, rfl, ?_⟩)
    · exact (eqL_len hx_2).symm
  · -- decide ((a.length : Int) ≠ (b.length : Int)) = false
    have hx_3 := of_decide_eq_false hb_1
    refine C_skip ?_
    refine N_then ?_
    refine C_seq ?_
    refine C_seq ?_
    refine C_region rfl ?_
    refine T_pv rfl (pv_move rfl) ?_
    refine T_pv rfl (pv_len rfl el22) ?_
    refine T_pv rfl (pv_move rfl) ?_
    refine T_nil ?_
    refine N_then ?_
    refine C_block ?_
    refine C_loop (fun (x : Int) => (S, [], [(0, .slice Aa a.length ca), (1, .slice Ab b.length cb), (2, .func (.func fq) #[] csq.toArray), (10, .slice Aa a.length ca), (11, .int .i64 (a.length : Int)), (12, .slice Ab b.length cb), (13, .int .i64 (b.length : Int)), (14, .bool (decide ((a.length : Int) ≠ (b.length : Int)))), (15, .slice Aa a.length ca), (16, .int .i64 (a.length : Int)), (17, .int .i64 x)])) (fun (x : Int) => 0 ≤ x ∧ x ≤ a.length ∧ a.take (x).toNat = b.take (x).toNat) (fun (x : Int) => (a.length - x).toNat) (0) ⟨by omega, by omega, by simp⟩ rfl trivial ⟨rfl, rfl, rfl, rfl, rfl, rfl, rfl, rfl, rfl, rfl, rfl, trivial⟩ ?_
    rintro i ⟨q0, q1, q2⟩
    dsimp only
    refine C_seq ?_
    refine C_region rfl ?_
    refine T_pv rfl (pv_lss rfl rfl) ?_
    refine T_nil ?_
    refine N_then ?_
    refine C_seq ?_
    refine C_cond rfl (fun hb_5 => ?_) (fun hb_5 => ?_)
    · -- decide (i < (a.length : Int)) = true
      have hx_6 := of_decide_eq_true hb_5
      refine C_skip ?_
      refine N_then ?_
      refine C_seq ?_
      refine C_block ?_
      refine C_seq ?_
      refine C_region rfl ?_
      refine T_pv rfl (pv_move rfl) ?_
      obtain ⟨us_7, hk_8, he_9⟩ := RdA.elt ha (i := i) (by omega) (by omega)
      obtain ⟨A_10, c_11, A_12, c_13, A_14, c_15, A_16, c_17, A_18, c_19, rfl, h_20, h_21, h_22, h_23, h_24, h_25, h_26, h_27, h_28⟩ := hk_8
      have hq_29 := InR.i64 h_20
      have hq_30 := InR.u8 h_21
      have hq_31 := InR.u8 h_22
      have hq_32 := InR.i64 h_23
      have hb_33 := h_24.bd
      have hb_34 := h_25.bd
      have hb_35 := h_26.bd
      have hb_36 := h_27.bd
      have hb_37 := h_28.bd
      refine T_pv rfl (pv_idx ha rfl rfl el22 sz37 (by omega) (by omega)) ?_
      refine T_pv rfl (pv_load_aggE (cs := [.int .i64 ((a.getD (i).toNat default).gain), .int .u8 (((a.getD (i).toNat default).info).seq), .int .u8 (((a.getD (i).toNat default).info).shape), .int .i64 (((a.getD (i).toNat default).info).max), .slice A_10 ((((a.getD (i).toNat default).info).groups).length) c_11, .slice A_12 (((a.getD (i).toNat default).sections).length) c_13, .slice A_14 (((a.getD (i).toNat default).steps).length) c_15, .slice A_16 (((a.getD (i).toNat default).tns).length) c_17, .slice A_18 (((a.getD (i).toNat default).lines).length) c_19]) rfl ag37 sz37 (he_9 _ _ (ImLe.refl _))) ?_
      refine T_cons (op_alloc (cs := [.int .i64 0, .int .u8 0, .int .u8 0, .int .i64 0, .slice none 0 0, .slice none 0 0, .slice none 0 0, .slice none 0 0, .slice none 0 0]) (lt_of rfl) 101 zr37 rfl fun g_38 => ?_)
      refine T_pv rfl (pv_assign rfl) ?_
      refine T_cons (op_store_any (vs := [.int .i64 ((a.getD (i).toNat default).gain), .int .u8 (((a.getD (i).toNat default).info).seq), .int .u8 (((a.getD (i).toNat default).info).shape), .int .i64 (((a.getD (i).toNat default).info).max), .slice A_10 ((((a.getD (i).toNat default).info).groups).length) c_11, .slice A_12 (((a.getD (i).toNat default).sections).length) c_13, .slice A_14 (((a.getD (i).toNat default).steps).length) c_15, .slice A_16 (((a.getD (i).toNat default).tns).length) c_17, .slice A_18 (((a.getD (i).toNat default).lines).length) c_19]) (cs' := [.int .i64 ((a.getD (i).toNat default).gain), .int .u8 (((a.getD (i).toNat default).info).seq), .int .u8 (((a.getD (i).toNat default).info).shape), .int .i64 (((a.getD (i).toNat default).info).max), .slice A_10 ((((a.getD (i).toNat default).info).groups).length) c_11, .slice A_12 (((a.getD (i).toNat default).sections).length) c_13, .slice A_14 (((a.getD (i).toNat default).steps).length) c_15, .slice A_16 (((a.getD (i).toNat default).tns).length) c_17, .slice A_18 (((a.getD (i).toNat default).lines).length) c_19]) 101 rfl rfl rfl sz37 (by simp [Value.oneCell']) rfl (Nat.le_of_ble_eq_true rfl) rfl ?_)
      refine T_nil ?_
      refine N_then ?_
      refine C_seq ?_
      refine C_region rfl ?_
      refine T_pv rfl (pv_move rfl) ?_
      refine T_pv rfl (pv_move rfl) ?_
      obtain ⟨us_39, hk_40, he_41⟩ := RdA.elt hb (i := i) (by omega) (by omega)
      obtain ⟨A_42, c_43, A_44, c_45, A_46, c_47, A_48, c_49, A_50, c_51, rfl, h_52, h_53, h_54, h_55, h_56, h_57, h_58, h_59, h_60⟩ := hk_40
      have hq_61 := InR.i64 h_52
      have hq_62 := InR.u8 h_53
      have hq_63 := InR.u8 h_54
      have hq_64 := InR.i64 h_55
      have hb_65 := h_56.bd
      have hb_66 := h_57.bd
      have hb_67 := h_58.bd
      have hb_68 := h_59.bd
      have hb_69 := h_60.bd
      refine T_pv rfl (pv_idx hb rfl rfl el22 sz37 (by omega) (by omega)) ?_
      refine T_pv rfl (pv_load_aggE (cs := [.int .i64 ((b.getD (i).toNat default).gain), .int .u8 (((b.getD (i).toNat default).info).seq), .int .u8 (((b.getD (i).toNat default).info).shape), .int .i64 (((b.getD (i).toNat default).info).max), .slice A_42 ((((b.getD (i).toNat default).info).groups).length) c_43, .slice A_44 (((b.getD (i).toNat default).sections).length) c_45, .slice A_46 (((b.getD (i).toNat default).steps).length) c_47, .slice A_48 (((b.getD (i).toNat default).tns).length) c_49, .slice A_50 (((b.getD (i).toNat default).lines).length) c_51]) rfl ag37 sz37 (he_41 _ _ (ImLe.refl _))) ?_
      refine T_cons (op_alloc (cs := [.int .i64 0, .int .u8 0, .int .u8 0, .int .i64 0, .slice none 0 0, .slice none 0 0, .slice none 0 0, .slice none 0 0, .slice none 0 0]) (lt_of rfl) 102 zr37 rfl fun g_70 => ?_)
      refine T_cons (op_store_any (vs := [.int .i64 ((b.getD (i).toNat default).gain), .int .u8 (((b.getD (i).toNat default).info).seq), .int .u8 (((b.getD (i).toNat default).info).shape), .int .i64 (((b.getD (i).toNat default).info).max), .slice A_42 ((((b.getD (i).toNat default).info).groups).length) c_43, .slice A_44 (((b.getD (i).toNat default).sections).length) c_45, .slice A_46 (((b.getD (i).toNat default).steps).length) c_47, .slice A_48 (((b.getD (i).toNat default).tns).length) c_49, .slice A_50 (((b.getD (i).toNat default).lines).length) c_51]) (cs' := [.int .i64 ((b.getD (i).toNat default).gain), .int .u8 (((b.getD (i).toNat default).info).seq), .int .u8 (((b.getD (i).toNat default).info).shape), .int .i64 (((b.getD (i).toNat default).info).max), .slice A_42 ((((b.getD (i).toNat default).info).groups).length) c_43, .slice A_44 (((b.getD (i).toNat default).sections).length) c_45, .slice A_46 (((b.getD (i).toNat default).steps).length) c_47, .slice A_48 (((b.getD (i).toNat default).tns).length) c_49, .slice A_50 (((b.getD (i).toNat default).lines).length) c_51]) 102 rfl rfl rfl sz37 (by simp [Value.oneCell']) rfl (Nat.le_of_ble_eq_true rfl) rfl ?_)
      refine T_nil ?_
      refine N_then ?_
      refine C_seq ?_
      refine C_region rfl ?_
      refine T_pv rfl (pv_move rfl) ?_
      refine T_pv rfl (pv_load_agg (cs := [.int .i64 ((a.getD (i).toNat default).gain), .int .u8 (((a.getD (i).toNat default).info).seq), .int .u8 (((a.getD (i).toNat default).info).shape), .int .i64 (((a.getD (i).toNat default).info).max), .slice A_10 ((((a.getD (i).toNat default).info).groups).length) c_11, .slice A_12 (((a.getD (i).toNat default).sections).length) c_13, .slice A_14 (((a.getD (i).toNat default).steps).length) c_15, .slice A_16 (((a.getD (i).toNat default).tns).length) c_17, .slice A_18 (((a.getD (i).toNat default).lines).length) c_19]) rfl ag37 sz37 rfl ⟨Cell.blk 101 rfl rfl, Cell.blk 101 rfl rfl, Cell.blk 101 rfl rfl, Cell.blk 101 rfl rfl, Cell.blk 101 rfl rfl, Cell.blk 101 rfl rfl, Cell.blk 101 rfl rfl, Cell.blk 101 rfl rfl, Cell.blk 101 rfl rfl, trivial⟩) ?_
      refine T_pv rfl (pv_load_agg (cs := [.int .i64 ((b.getD (i).toNat default).gain), .int .u8 (((b.getD (i).toNat default).info).seq), .int .u8 (((b.getD (i).toNat default).info).shape), .int .i64 (((b.getD (i).toNat default).info).max), .slice A_42 ((((b.getD (i).toNat default).info).groups).length) c_43, .slice A_44 (((b.getD (i).toNat default).sections).length) c_45, .slice A_46 (((b.getD (i).toNat default).steps).length) c_47, .slice A_48 (((b.getD (i).toNat default).tns).length) c_49, .slice A_50 (((b.getD (i).toNat default).lines).length) c_51]) rfl ag37 sz37 rfl ⟨Cell.blk 102 rfl rfl, Cell.blk 102 rfl rfl, Cell.blk 102 rfl rfl, Cell.blk 102 rfl rfl, Cell.blk 102 rfl rfl, Cell.blk 102 rfl rfl, Cell.blk 102 rfl rfl, Cell.blk 102 rfl rfl, Cell.blk 102 rfl rfl, trivial⟩) ?_
      refine T_cons (op_call (fun _ h => by cases h; exact lt_of rfl) rfl rfl rfl heq (hfq _ _ _ _ ⟨_, _, _, _, _, _, _, _, _, _, rfl, h_20, h_21, h_22, h_23, h_24, h_25, h_26, h_27, h_28⟩ ⟨_, _, _, _, _, _, _, _, _, _, rfl, h_52, h_53, h_54, h_55, h_56, h_57, h_58, h_59, h_60⟩) [] trivial (by simp) (by decide) ?_)
      rintro v_73 S_71 L_74 ⟨rfl, rfl, rfl⟩ hle_72
      refine ⟨rfl, ?_⟩
      refine T_pv rfl (pv_not rfl) ?_
      refine T_nil ?_
      refine N_then ?_
      refine C_cond rfl (fun hb_75 => ?_) (fun hb_75 => ?_)
      · -- !(decide (a.getD (i).toNat default = b.getD (i).toNat default)) = true
        have hn_76 : (decide (a.getD (i).toNat default = b.getD (i).toNat default)) = false := by simpa using hb_75
        have hx_77 := of_decide_eq_false hn_76
        refine C_seq ?_
        refine C_region rfl ?_
        refine T_pv rfl (pv_assign rfl) ?_
        refine T_nil ?_
        refine N_then ?_
        refine C_ret0 ?_
        refine R_block ?_
        refine R_then ?_
        refine R_loop ?_
        refine R_block ?_
        refine R_then ?_
        -- ret 1: .bool false
        refine Q_ret (vs := [.bool false]) ⟨rfl, trivial⟩ (L' := []) [] trivial (by simp) (by decide) (⟨false, rfl, rfl, rfl, ?_⟩)
        · exact (eqL_at (by simpa using hx_77)).symm
      · -- !(decide (a.getD (i).toNat default = b.getD (i).toNat default)) = false
        have hn_78 : (decide (a.getD (i).toNat default = b.getD (i).toNat default)) = true := by simpa using hb_75
        have hx_79 := of_decide_eq_true hn_78
        refine C_skip ?_
        refine N_block ?_
        refine N_then ?_
        refine C_region rfl ?_
        have hr_80 : InR .i64 (i + 1) := inR_i64 (by omega) (by omega)
        refine T_pv rfl (pv_add rfl rfl hr_80) ?_
        refine T_pv rfl (pv_move rfl) ?_
        refine T_nil ?_
        refine N_next (i + 1) ⟨by omega, by omega, eqL_next (by omega) (by omega) (by omega) q2 (by simpa using hx_79)⟩ (by first | omega | (dsimp only; omega)) rfl trivial ⟨rfl, rfl, rfl, rfl, rfl, rfl, rfl, rfl, rfl, rfl, rfl, trivial⟩
    · -- decide (i < (a.length : Int)) = false
      have hx_81 := of_decide_eq_false hb_5
      refine C_exit ?_
      refine X_then ?_
      refine X_loop ?_
      refine X_block ?_
      refine N_then ?_
      refine C_seq ?_
      refine C_region rfl ?_
      refine T_pv rfl (pv_assign rfl) ?_
      refine T_nil ?_
      refine N_then ?_
      refine C_ret0 ?_
      -- ret 2: .bool true
      refine Q_ret (vs := [.bool true]) ⟨rfl, trivial⟩ (L' := []) [] trivial (by simp) (by decide) (⟨true, rfl, rfl, rfl, ?_⟩)
      · exact (eqL_all (by omega) (by omega) q2).symm

set_option maxRecDepth 100000 in
theorem f_raw_Same (S : Im) (a : GFrame) (Aa0 : Option Addr) (ca0 : Nat) (ha0 : RdA kGChan S Aa0 ca0 a.chans) (ha2 : InR .i64 a.mask) (Aa3 : Option Addr) (ca3 : Nat) (ha3 : RdA (kSl kBool) S Aa3 ca3 a.bands) (Aa4 : Option Addr) (ca4 : Nat) (ha4 : RdA (kInt .u8) S Aa4 ca4 a.fill) (b : GFrame) (Ab0 : Option Addr) (cb0 : Nat) (hb0 : RdA kGChan S Ab0 cb0 b.chans) (hb2 : InR .i64 b.mask) (Ab3 : Option Addr) (cb3 : Nat) (hb3 : RdA (kSl kBool) S Ab3 cb3 b.bands) (Ab4 : Option Addr) (cb4 : Nat) (hb4 : RdA (kInt .u8) S Ab4 cb4 b.fill) : Fn Try.prog 6 [.agg #[.slice Aa0 a.chans.length ca0, .bool a.common, .int .i64 a.mask, .slice Aa3 a.bands.length ca3, .slice Aa4 a.fill.length ca4], .agg #[.slice Ab0 b.chans.length cb0, .bool b.common, .int .i64 b.mask, .slice Ab3 b.bands.length cb3, .slice Ab4 b.fill.length cb4]] S [] fun v S' L' => ∃ (r0 : Bool), v = .bool r0 ∧ S = S' ∧ L' = [] ∧ (decide (a = b)) = r0 := by
  have hb_a0 := ha0.bd
  have hb_a2 := InR.i64 ha2
  have hb_a3 := ha3.bd
  have hb_a4 := ha4.bd
  have hb_b0 := hb0.bd
  have hb_b2 := InR.i64 hb2
  have hb_b3 := hb3.bd
  have hb_b4 := hb4.bd
  refine Fn_intro 40 Try.func6 rfl rfl rfl fun w0 => ?_
  refine C_seq ?_
  refine C_region rfl ?_
  refine T_cons (op_box (cs := [.slice Aa0 a.chans.length ca0, .bool a.common, .int .i64 a.mask, .slice Aa3 a.bands.length ca3, .slice Aa4 a.fill.length ca4]) (lt_of rfl) 101 rfl rfl fun g_1 => ?_)
  refine T_cons (op_box (cs := [.slice Ab0 b.chans.length cb0, .bool b.common, .int .i64 b.mask, .slice Ab3 b.bands.length cb3, .slice Ab4 b.fill.length cb4]) (lt_of rfl) 102 rfl rfl fun g_2 => ?_)
  refine T_pv rfl (pv_assign rfl) ?_
  refine T_nil ?_
  refine N_then ?_
  refine C_seq ?_
  refine C_region rfl ?_
  refine T_pv rfl (pv_fieldAddr rfl fl_26_1) ?_
  refine T_pv rfl (pv_load rfl ag4 (Cell.blk 101 rfl rfl)) ?_
  refine T_pv rfl (pv_fieldAddr rfl fl_26_1) ?_
  refine T_pv rfl (pv_load rfl ag4 (Cell.blk 102 rfl rfl)) ?_
  refine T_pv rfl (pv_eqlbd rfl rfl un4) ?_
  refine T_pv rfl (pv_move rfl) ?_
  refine T_gs (dj := 11) rfl (fun hb_3 => ?_) (fun hb_3 => ?_)
  · -- decide (a.common = b.common) = true
    have hx_4 := of_decide_eq_true hb_3
    refine T_gy rfl rfl hb_3 rfl (pv_fieldAddr rfl fl_26_2) ?_
    refine T_gy rfl rfl hb_3 rfl (pv_load rfl ag3 (Cell.blk 101 rfl rfl)) ?_
    refine T_gy rfl rfl hb_3 rfl (pv_fieldAddr rfl fl_26_2) ?_
    refine T_gy rfl rfl hb_3 rfl (pv_load rfl ag3 (Cell.blk 102 rfl rfl)) ?_
    refine T_gy rfl rfl hb_3 rfl (pv_eqi rfl rfl) ?_
    refine T_pv rfl (pv_pick_t rfl hb_3 rfl) ?_
    refine T_pv rfl (pv_move rfl) ?_
    refine T_gs (dj := 18) rfl (fun hb_5 => ?_) (fun hb_5 => ?_)
    · -- decide (a.mask = b.mask) = true
      have hx_6 := of_decide_eq_true hb_5
      refine T_gy rfl rfl hb_5 rfl (pv_fieldAddr rfl fl_26_4) ?_
      refine T_gy rfl rfl hb_5 rfl (pv_load rfl ag24 (Cell.blk 101 rfl rfl)) ?_
      refine T_gy rfl rfl hb_5 rfl (pv_fieldAddr rfl fl_26_4) ?_
      refine T_gy rfl rfl hb_5 rfl (pv_load rfl ag24 (Cell.blk 102 rfl rfl)) ?_
      refine T_gyo rfl rfl hb_5 (op_call (fun _ h => by cases h; exact lt_of rfl) rfl rfl rfl en15 (f_EqualB _ _ _ a.fill ha4 _ _ b.fill hb4) [] trivial (by simp) (by decide) ?_)
      rintro v_10 S_8 L_11 ⟨r_7, rfl, rfl, rfl, rfl⟩ hle_9
      refine ⟨rfl, ?_⟩
      refine T_pv rfl (pv_pick_t rfl hb_5 rfl) ?_
      refine T_pv rfl (pv_assign rfl) ?_
      refine T_nil ?_
      refine N_then ?_
      refine C_seq ?_
      refine C_region rfl ?_
      refine T_pv rfl (pv_move rfl) ?_
      refine T_pv rfl (pv_move rfl) ?_
      refine T_gs (dj := 26) rfl (fun hb_12 => ?_) (fun hb_12 => ?_)
      · -- decide (a.fill = b.fill) = true
        have hx_13 := of_decide_eq_true hb_12
        refine T_gy rfl rfl hb_12 rfl (pv_fieldAddr rfl fl_26_0) ?_
        refine T_gy rfl rfl hb_12 rfl (pv_load rfl ag22 (Cell.blk 101 rfl rfl)) ?_
        refine T_gy rfl rfl hb_12 rfl (pv_fieldAddr rfl fl_26_0) ?_
        refine T_gy rfl rfl hb_12 rfl (pv_load rfl ag22 (Cell.blk 102 rfl rfl)) ?_
        refine T_gyo rfl rfl hb_12 (op_call (fun _ h => by cases h; exact lt_of rfl) rfl rfl rfl en16 (f_EqFC _ _ _ a.chans ha0 _ _ b.chans hb0 17 [] en17 (fun us vs xa xb ha hb => by obtain ⟨Aa4, ca4, Aa5, ca5, Aa6, ca6, Aa7, ca7, Aa8, ca8, rfl, ha0, ha1, ha2, ha3, ha4, ha5, ha6, ha7, ha8⟩ := ha; obtain ⟨Ab4, cb4, Ab5, cb5, Ab6, cb6, Ab7, cb7, Ab8, cb8, rfl, hb0, hb1, hb2, hb3, hb4, hb5, hb6, hb7, hb8⟩ := hb; exact Fn.mono (f_lane_Same _ xa ha0 ha1 ha2 ha3 _ _ ha4 _ _ ha5 _ _ ha6 _ _ ha7 _ _ ha8 xb hb0 hb1 hb2 hb3 _ _ hb4 _ _ hb5 _ _ hb6 _ _ hb7 _ _ hb8) fun v S' L' ⟨r0, h1, h2, h3, h4⟩ => ⟨by rw [h1, ← h4], h2, h3⟩)) [] trivial (by simp) (by decide) ?_)
        rintro v_17 S_15 L_18 ⟨r_14, rfl, rfl, rfl, rfl⟩ hle_16
        refine ⟨rfl, ?_⟩
        refine T_pv rfl (pv_pick_t rfl hb_12 rfl) ?_
        refine T_pv rfl (pv_move rfl) ?_
        refine T_gs (dj := 33) rfl (fun hb_19 => ?_) (fun hb_19 => ?_)
        · -- decide (a.chans = b.chans) = true
          have hx_20 := of_decide_eq_true hb_19
          refine T_gy rfl rfl hb_19 rfl (pv_fieldAddr rfl fl_26_3) ?_
          refine T_gy rfl rfl hb_19 rfl (pv_load rfl ag23 (Cell.blk 101 rfl rfl)) ?_
          refine T_gy rfl rfl hb_19 rfl (pv_fieldAddr rfl fl_26_3) ?_
          refine T_gy rfl rfl hb_19 rfl (pv_load rfl ag23 (Cell.blk 102 rfl rfl)) ?_
          refine T_gyo rfl rfl hb_19 (op_call (fun _ h => by cases h; exact lt_of rfl) rfl rfl rfl en18 (f_EqFBo _ _ _ a.bands ha3 _ _ b.bands hb3 19 [] en19 (fun A c x B e y hx hy => Fn.mono (f_EqualBo _ _ _ x hx _ _ y hy) fun v S' L' ⟨r0, h1, h2, h3, h4⟩ => ⟨by rw [h1, ← h4], h2, h3⟩)) [] trivial (by simp) (by decide) ?_)
          rintro v_24 S_22 L_25 ⟨r_21, rfl, rfl, rfl, rfl⟩ hle_23
          refine ⟨rfl, ?_⟩
          refine T_pv rfl (pv_pick_t rfl hb_19 rfl) ?_
          refine T_pv rfl (pv_assign rfl) ?_
          refine T_nil ?_
          refine N_then ?_
          refine C_ret0 ?_
          -- ret 0: .bool (decide (a.bands = b.bands))
          refine Q_ret (vs := [.bool (decide (a.bands = b.bands))]) ⟨rfl, trivial⟩ (L' := []) [] trivial (by simp) (by decide) (⟨decide (a.bands = b.bands), rfl, rfl, rfl, ?_⟩)
          · simp [GFrame.eq_iff, hx_4, hx_6, hx_13, hx_20]
        · -- decide (a.chans = b.chans) = false
          have hx_26 := of_decide_eq_false hb_19
          refine T_gn rfl rfl hb_19 rfl ?_
          refine T_gn rfl rfl hb_19 rfl ?_
          refine T_gn rfl rfl hb_19 rfl ?_
          refine T_gn rfl rfl hb_19 rfl ?_
          refine T_gn rfl rfl hb_19 rfl ?_
          refine T_pv rfl (pv_pick_f rfl hb_19 rfl) ?_
          refine T_pv rfl (pv_assign rfl) ?_
          refine T_nil ?_
          refine N_then ?_
          refine C_ret0 ?_
          -- ret 1: .bool false
          refine Q_ret (vs := [.bool false]) ⟨rfl, trivial⟩ (L' := []) [] trivial (by simp) (by decide) (⟨false, rfl, rfl, rfl, ?_⟩)
          · simp [GFrame.eq_iff, hx_4, hx_6, hx_13, hx_26]
      · -- decide (a.fill = b.fill) = false
        have hx_27 := of_decide_eq_false hb_12
        refine T_gn rfl rfl hb_12 rfl ?_
        refine T_gn rfl rfl hb_12 rfl ?_
        refine T_gn rfl rfl hb_12 rfl ?_
        refine T_gn rfl rfl hb_12 rfl ?_
        refine T_gn rfl rfl hb_12 rfl ?_
        refine T_pv rfl (pv_pick_f rfl hb_12 rfl) ?_
        refine T_pv rfl (pv_move rfl) ?_
        refine T_gn rfl rfl rfl rfl ?_
        refine T_gn rfl rfl rfl rfl ?_
        refine T_gn rfl rfl rfl rfl ?_
        refine T_gn rfl rfl rfl rfl ?_
        refine T_gn rfl rfl rfl rfl ?_
        refine T_pv rfl (pv_pick_f rfl rfl rfl) ?_
        refine T_pv rfl (pv_assign rfl) ?_
        refine T_nil ?_
        refine N_then ?_
        refine C_ret0 ?_
        -- ret 2: .bool false
        refine Q_ret (vs := [.bool false]) ⟨rfl, trivial⟩ (L' := []) [] trivial (by simp) (by decide) (⟨false, rfl, rfl, rfl, ?_⟩)
        · simp [GFrame.eq_iff, hx_4, hx_6, hx_27]
    · -- decide (a.mask = b.mask) = false
      have hx_28 := of_decide_eq_false hb_5
      refine T_gn rfl rfl hb_5 rfl ?_
      refine T_gn rfl rfl hb_5 rfl ?_
      refine T_gn rfl rfl hb_5 rfl ?_
      refine T_gn rfl rfl hb_5 rfl ?_
      refine T_gn rfl rfl hb_5 rfl ?_
      refine T_pv rfl (pv_pick_f rfl hb_5 rfl) ?_
      refine T_pv rfl (pv_assign rfl) ?_
      refine T_nil ?_
      refine N_then ?_
      refine C_seq ?_
      refine C_region rfl ?_
      refine T_pv rfl (pv_move rfl) ?_
      refine T_pv rfl (pv_move rfl) ?_
      refine T_gn rfl rfl rfl rfl ?_
      refine T_gn rfl rfl rfl rfl ?_
      refine T_gn rfl rfl rfl rfl ?_
      refine T_gn rfl rfl rfl rfl ?_
      refine T_gn rfl rfl rfl rfl ?_
      refine T_pv rfl (pv_pick_f rfl rfl rfl) ?_
      refine T_pv rfl (pv_move rfl) ?_
      refine T_gn rfl rfl rfl rfl ?_
      refine T_gn rfl rfl rfl rfl ?_
      refine T_gn rfl rfl rfl rfl ?_
      refine T_gn rfl rfl rfl rfl ?_
      refine T_gn rfl rfl rfl rfl ?_
      refine T_pv rfl (pv_pick_f rfl rfl rfl) ?_
      refine T_pv rfl (pv_assign rfl) ?_
      refine T_nil ?_
      refine N_then ?_
      refine C_ret0 ?_
      -- ret 3: .bool false
      refine Q_ret (vs := [.bool false]) ⟨rfl, trivial⟩ (L' := []) [] trivial (by simp) (by decide) (⟨false, rfl, rfl, rfl, ?_⟩)
      · simp [GFrame.eq_iff, hx_4, hx_28]
  · -- decide (a.common = b.common) = false
    have hx_29 := of_decide_eq_false hb_3
    refine T_gn rfl rfl hb_3 rfl ?_
    refine T_gn rfl rfl hb_3 rfl ?_
    refine T_gn rfl rfl hb_3 rfl ?_
    refine T_gn rfl rfl hb_3 rfl ?_
    refine T_gn rfl rfl hb_3 rfl ?_
    refine T_pv rfl (pv_pick_f rfl hb_3 rfl) ?_
    refine T_pv rfl (pv_move rfl) ?_
    refine T_gn rfl rfl rfl rfl ?_
    refine T_gn rfl rfl rfl rfl ?_
    refine T_gn rfl rfl rfl rfl ?_
    refine T_gn rfl rfl rfl rfl ?_
    refine T_gn rfl rfl rfl rfl ?_
    refine T_pv rfl (pv_pick_f rfl rfl rfl) ?_
    refine T_pv rfl (pv_assign rfl) ?_
    refine T_nil ?_
    refine N_then ?_
    refine C_seq ?_
    refine C_region rfl ?_
    refine T_pv rfl (pv_move rfl) ?_
    refine T_pv rfl (pv_move rfl) ?_
    refine T_gn rfl rfl rfl rfl ?_
    refine T_gn rfl rfl rfl rfl ?_
    refine T_gn rfl rfl rfl rfl ?_
    refine T_gn rfl rfl rfl rfl ?_
    refine T_gn rfl rfl rfl rfl ?_
    refine T_pv rfl (pv_pick_f rfl rfl rfl) ?_
    refine T_pv rfl (pv_move rfl) ?_
    refine T_gn rfl rfl rfl rfl ?_
    refine T_gn rfl rfl rfl rfl ?_
    refine T_gn rfl rfl rfl rfl ?_
    refine T_gn rfl rfl rfl rfl ?_
    refine T_gn rfl rfl rfl rfl ?_
    refine T_pv rfl (pv_pick_f rfl rfl rfl) ?_
    refine T_pv rfl (pv_assign rfl) ?_
    refine T_nil ?_
    refine N_then ?_
    refine C_ret0 ?_
    -- ret 4: .bool false
    refine Q_ret (vs := [.bool false]) ⟨rfl, trivial⟩ (L' := []) [] trivial (by simp) (by decide) (⟨false, rfl, rfl, rfl, ?_⟩)
    · simp [GFrame.eq_iff, hx_29]

set_option maxRecDepth 100000 in
theorem f_r18_SameSteps (S : Im) (Aa : Option Addr) (ca : Nat) (a : List (List Int)) (ha : RdA (kSl (kInt .i64)) S Aa ca a) (Ab : Option Addr) (cb : Nat) (b : List (List Int)) (hb : RdA (kSl (kInt .i64)) S Ab cb b) : Fn Try.prog 39 [.slice Aa a.length ca, .slice Ab b.length cb] S [] fun v S' L' => ∃ (r0 : Bool), v = .bool r0 ∧ S = S' ∧ L' = [] ∧ (decide (a = b)) = r0 := by
  have hb_a := ha.bd
  have hb_b := hb.bd
  refine Fn_intro 27 Try.func39 rfl rfl rfl fun w0 => ?_
  refine C_seq ?_
  refine C_region rfl ?_
  refine T_pv rfl (pv_assign rfl) ?_
  refine T_nil ?_
  refine N_then ?_
  refine C_seq ?_
  refine C_seq ?_
  refine C_region rfl ?_
  refine T_pv rfl (pv_move rfl) ?_
  refine T_pv rfl (pv_len rfl el34) ?_
  refine T_pv rfl (pv_move rfl) ?_
  refine T_pv rfl (pv_len rfl el34) ?_
  refine T_pv rfl (pv_nei rfl rfl) ?_
  refine T_nil ?_
  refine N_then ?_
  refine C_cond rfl (fun hb_1 => ?_) (fun hb_1 => ?_)
  · -- decide ((a.length : Int) ≠ (b.length : Int)) = true
    have hx_2 := of_decide_eq_true hb_1
    refine C_seq ?_
    refine C_region rfl ?_
    refine T_pv rfl (pv_assign rfl) ?_
    refine T_nil ?_
    refine N_then ?_
    refine C_ret0 ?_
    refine R_then ?_
    -- ret 0: .bool false
    refine Q_ret (vs := [.bool false]) ⟨rfl, trivial⟩ (L' := []) [] trivial (by simp) (by decide) (⟨false, rfl, rfl, rfl, ?_⟩)
    · exact (eqL_len hx_2).symm
  · -- decide ((a.length : Int) ≠ (b.length : Int)) = false
    have hx_3 := of_decide_eq_false hb_1
    refine C_skip ?_
    refine N_then ?_
    refine C_seq ?_
    refine C_seq ?_
    refine C_region rfl ?_
    refine T_pv rfl (pv_assign rfl) ?_
    refine T_nil ?_
    refine N_then ?_
    refine C_block ?_
    refine C_loop (fun (x : Int) => (S, [], [(0, .slice Aa a.length ca), (1, .slice Ab b.length cb), (6, .slice Aa a.length ca), (7, .int .i64 (a.length : Int)), (8, .slice Ab b.length cb), (9, .int .i64 (b.length : Int)), (10, .bool (decide ((a.length : Int) ≠ (b.length : Int)))), (5, .int .i64 x)])) (fun (x : Int) => 0 ≤ x ∧ x ≤ a.length ∧ a.take (x).toNat = b.take (x).toNat) (fun (x : Int) => (a.length - x).toNat) (0) ⟨by omega, by omega, by simp⟩ rfl trivial ⟨rfl, rfl, rfl, rfl, rfl, rfl, rfl, rfl, trivial⟩ ?_
    rintro i ⟨q0, q1, q2⟩
    dsimp only
    refine C_seq ?_
    refine C_seq ?_
    refine C_region rfl ?_
    refine T_pv rfl (pv_move rfl) ?_
    refine T_pv rfl (pv_move rfl) ?_
    refine T_pv rfl (pv_len rfl el34) ?_
    refine T_pv rfl (pv_lss rfl rfl) ?_
    refine T_nil ?_
    refine N_then ?_
    refine C_cond rfl (fun hb_5 => ?_) (fun hb_5 => ?_)
    · -- decide (i < (a.length : Int)) = true
      have hx_6 := of_decide_eq_true hb_5
      refine C_skip ?_
      refine N_then ?_
      refine C_seq ?_
      refine C_block ?_
      refine C_seq ?_
      refine C_drawS (S) [] 10 (by kernel_rfl) rfl (fun h0_7 => ?_)
      refine A_take (i := 0) rfl (by kernel_rfl) (held_le trivial (ImLe.refl _) h0_7) rfl (pv_move rfl) ?_
      refine A_take (i := 1) rfl (by kernel_rfl) (held_le trivial (ImLe.refl _) h0_7) rfl (pv_move rfl) ?_
      obtain ⟨us_8, hk_9, he_10⟩ := RdA.elt ha (i := i) (by omega) (by omega)
      obtain ⟨A_11, c_12, rfl, h_13⟩ := hk_9
      have hb_14 := h_13.bd
      refine A_take (i := 2) rfl (by kernel_rfl) (held_le trivial (ImLe.refl _) h0_7) rfl (pv_idx ha rfl rfl el34 sz30 (by omega) (by omega)) ?_
      refine A_take (i := 3) rfl (by kernel_rfl) (held_le trivial (ImLe.refl _) h0_7) rfl (pv_load rfl ag30 ((he_10 _ _ (ImLe.refl _)).zero rfl)) ?_
      refine A_take (i := 4) rfl (by kernel_rfl) (held_le trivial (ImLe.refl _) h0_7) rfl (pv_move rfl) ?_
      refine A_take (i := 5) rfl (by kernel_rfl) (held_le trivial (ImLe.refl _) h0_7) rfl (pv_move rfl) ?_
      obtain ⟨us_15, hk_16, he_17⟩ := RdA.elt hb (i := i) (by omega) (by omega)
      obtain ⟨A_18, c_19, rfl, h_20⟩ := hk_16
      have hb_21 := h_20.bd
      refine A_take (i := 6) rfl (by kernel_rfl) (held_le trivial (ImLe.refl _) h0_7) rfl (pv_idx hb rfl rfl el34 sz30 (by omega) (by omega)) ?_
      refine A_take (i := 7) rfl (by kernel_rfl) (held_le trivial (ImLe.refl _) h0_7) rfl (pv_load rfl ag30 ((he_17 _ _ (ImLe.refl _)).zero rfl)) ?_
      refine A_one (i := 8) (by kernel_rfl) ?_
      refine AS_op rfl (op_call (fun _ h => by cases h; exact lt_of rfl) rfl rfl rfl en37 (f_Ints _ _ _ (a.getD (i).toNat default) h_13 _ _ (b.getD (i).toNat default) h_20) [] trivial (by simp) (by decide) ?_)
      rintro v_25 S_23 L_26 ⟨r_22, rfl, rfl, rfl, rfl⟩ hle_24
      refine ⟨rfl, ?_⟩
      refine ⟨fun _ => (held_le trivial (ImLe.refl _) h0_7), ?_⟩
      refine A_take (i := 9) rfl (by kernel_rfl) (held_le trivial (ImLe.refl _) h0_7) rfl (pv_not rfl) ?_
      refine A_done (by kernel_rfl) ?_
      refine N_then ?_
      refine C_cond rfl (fun hb_27 => ?_) (fun hb_27 => ?_)
      · -- !(decide ((a.getD (i).toNat default) = (b.getD (i).toNat default))) = true
        have hn_28 : (decide ((a.getD (i).toNat default) = (b.getD (i).toNat default))) = false := by simpa using hb_27
        have hx_29 := of_decide_eq_false hn_28
        refine C_seq ?_
        refine C_region rfl ?_
        refine T_pv rfl (pv_assign rfl) ?_
        refine T_nil ?_
        refine N_then ?_
        refine C_ret0 ?_
        refine R_block ?_
        refine R_then ?_
        refine R_loop ?_
        refine R_block ?_
        refine R_then ?_
        -- ret 1: .bool false
        refine Q_ret (vs := [.bool false]) ⟨rfl, trivial⟩ (L' := []) [] trivial (by simp) (by decide) (⟨false, rfl, rfl, rfl, ?_⟩)
        · exact (eqL_at (by simpa using hx_29)).symm
      · -- !(decide ((a.getD (i).toNat default) = (b.getD (i).toNat default))) = false
        have hn_30 : (decide ((a.getD (i).toNat default) = (b.getD (i).toNat default))) = true := by simpa using hb_27
        have hx_31 := of_decide_eq_true hn_30
        refine C_skip ?_
        refine N_block ?_
        refine N_then ?_
        refine C_region rfl ?_
        refine T_pv rfl (pv_move rfl) ?_
        have hr_32 : InR .i64 (i + 1) := inR_i64 (by omega) (by omega)
        refine T_pv rfl (pv_add rfl rfl hr_32) ?_
        refine T_pv rfl (pv_assign rfl) ?_
        refine T_nil ?_
        refine N_next (i + 1) ⟨by omega, by omega, eqL_next (by omega) (by omega) (by omega) q2 (by simpa using hx_31)⟩ (by first | omega | (dsimp only; omega)) rfl trivial ⟨rfl, rfl, rfl, rfl, rfl, rfl, rfl, rfl, trivial⟩
    · -- decide (i < (a.length : Int)) = false
      have hx_33 := of_decide_eq_false hb_5
      refine C_exit ?_
      refine X_then ?_
      refine X_loop ?_
      refine X_block ?_
      refine N_then ?_
      refine C_seq ?_
      refine C_region rfl ?_
      refine T_pv rfl (pv_assign rfl) ?_
      refine T_nil ?_
      refine N_then ?_
      refine C_ret0 ?_
      -- ret 2: .bool true
      refine Q_ret (vs := [.bool true]) ⟨rfl, trivial⟩ (L' := []) [] trivial (by simp) (by decide) (⟨true, rfl, rfl, rfl, ?_⟩)
      · exact (eqL_all (by omega) (by omega) q2).symm

set_option maxRecDepth 100000 in
theorem f_r18_SameSections (S : Im) (Aa : Option Addr) (ca : Nat) (a : List (List GSection)) (ha : RdA (kSl kGSection) S Aa ca a) (Ab : Option Addr) (cb : Nat) (b : List (List GSection)) (hb : RdA (kSl kGSection) S Ab cb b) : Fn Try.prog 38 [.slice Aa a.length ca, .slice Ab b.length cb] S [] fun v S' L' => ∃ (r0 : Bool), v = .bool r0 ∧ S = S' ∧ L' = [] ∧ (decide (a = b)) = r0 := by
  have hb_a := ha.bd
  have hb_b := hb.bd
  refine Fn_intro 53 Try.func38 rfl rfl rfl fun w0 => ?_
  refine C_seq ?_
  refine C_region rfl ?_
  refine T_pv rfl (pv_assign rfl) ?_
  refine T_nil ?_
  refine N_then ?_
  refine C_seq ?_
  refine C_seq ?_
  refine C_region rfl ?_
  refine T_pv rfl (pv_move rfl) ?_
  refine T_pv rfl (pv_len rfl el33) ?_
  refine T_pv rfl (pv_move rfl) ?_
  refine T_pv rfl (pv_len rfl el33) ?_
  refine T_pv rfl (pv_nei rfl rfl) ?_
  refine T_nil ?_
  refine N_then ?_
  refine C_cond rfl (fun hb_1 => ?_) (fun hb_1 => ?_)
  · -- decide ((a.length : Int) ≠ (b.length : Int)) = true
    have hx_2 := of_decide_eq_true hb_1
    refine C_seq ?_
    refine C_region rfl ?_
    refine T_pv rfl (pv_assign rfl) ?_
    refine T_nil ?_
    refine N_then ?_
    refine C_ret0 ?_
    refine R_then ?_
    -- ret 0: .bool false
    refine Q_ret (vs := [.bool false]) ⟨rfl, trivial⟩ (L' := []) [] trivial (by simp) (by decide) (⟨false, rfl, rfl, rfl, ?_⟩)
    · exact (eqL_len hx_2).symm
  · -- decide ((a.length : Int) ≠ (b.length : Int)) = false
    have hx_3 := of_decide_eq_false hb_1
    refine C_skip ?_
    refine N_then ?_
    refine C_seq ?_
    refine C_seq ?_
    refine C_region rfl ?_
    refine T_pv rfl (pv_assign rfl) ?_
    refine T_nil ?_
    refine N_then ?_
    refine C_block ?_
    refine C_loop (fun (x : Int) => (S, [], [(0, .slice Aa a.length ca), (1, .slice Ab b.length cb), (7, .slice Aa a.length ca), (8, .int .i64 (a.length : Int)), (9, .slice Ab b.length cb), (10, .int .i64 (b.length : Int)), (11, .bool (decide ((a.length : Int) ≠ (b.length : Int)))), (5, .int .i64 x)])) (fun (x : Int) => 0 ≤ x ∧ x ≤ a.length ∧ a.take (x).toNat = b.take (x).toNat) (fun (x : Int) => (a.length - x).toNat) (0) ⟨by omega, by omega, by simp⟩ rfl trivial ⟨rfl, rfl, rfl, rfl, rfl, rfl, rfl, rfl, trivial⟩ ?_
    rintro i ⟨q0, q1, q2⟩
    dsimp only
    refine C_seq ?_
    refine C_seq ?_
    refine C_region rfl ?_
    refine T_pv rfl (pv_move rfl) ?_
    refine T_pv rfl (pv_move rfl) ?_
    refine T_pv rfl (pv_len rfl el33) ?_
    refine T_pv rfl (pv_lss rfl rfl) ?_
    refine T_nil ?_
    refine N_then ?_
    refine C_cond rfl (fun hb_5 => ?_) (fun hb_5 => ?_)
    · -- decide (i < (a.length : Int)) = true
      have hx_6 := of_decide_eq_true hb_5
      refine C_skip ?_
      refine N_then ?_
      refine C_seq ?_
      refine C_block ?_
      refine C_seq ?_
      refine C_seq ?_
      refine C_drawS (S) [] 11 (by kernel_rfl) rfl (fun h0_7 => ?_)
      refine A_take (i := 0) rfl (by kernel_rfl) (held_le trivial (ImLe.refl _) h0_7) rfl (pv_move rfl) ?_
      refine A_take (i := 1) rfl (by kernel_rfl) (held_le trivial (ImLe.refl _) h0_7) rfl (pv_move rfl) ?_
      obtain ⟨us_8, hk_9, he_10⟩ := RdA.elt ha (i := i) (by omega) (by omega)
      obtain ⟨A_11, c_12, rfl, h_13⟩ := hk_9
      have hb_14 := h_13.bd
      refine A_take (i := 2) rfl (by kernel_rfl) (held_le trivial (ImLe.refl _) h0_7) rfl (pv_idx ha rfl rfl el33 sz50 (by omega) (by omega)) ?_
      refine A_take (i := 3) rfl (by kernel_rfl) (held_le trivial (ImLe.refl _) h0_7) rfl (pv_load rfl ag50 ((he_10 _ _ (ImLe.refl _)).zero rfl)) ?_
      refine A_take (i := 4) rfl (by kernel_rfl) (held_le trivial (ImLe.refl _) h0_7) rfl (pv_len rfl el50) ?_
      refine A_take (i := 5) rfl (by kernel_rfl) (held_le trivial (ImLe.refl _) h0_7) rfl (pv_move rfl) ?_
      refine A_take (i := 6) rfl (by kernel_rfl) (held_le trivial (ImLe.refl _) h0_7) rfl (pv_move rfl) ?_
      obtain ⟨us_15, hk_16, he_17⟩ := RdA.elt hb (i := i) (by omega) (by omega)
      obtain ⟨A_18, c_19, rfl, h_20⟩ := hk_16
      have hb_21 := h_20.bd
      refine A_take (i := 7) rfl (by kernel_rfl) (held_le trivial (ImLe.refl _) h0_7) rfl (pv_idx hb rfl rfl el33 sz50 (by omega) (by omega)) ?_
      refine A_take (i := 8) rfl (by kernel_rfl) (held_le trivial (ImLe.refl _) h0_7) rfl (pv_load rfl ag50 ((he_17 _ _ (ImLe.refl _)).zero rfl)) ?_
      refine A_take (i := 9) rfl (by kernel_rfl) (held_le trivial (ImLe.refl _) h0_7) rfl (pv_len rfl el50) ?_
      refine A_take (i := 10) rfl (by kernel_rfl) (held_le trivial (ImLe.refl _) h0_7) rfl (pv_nei rfl rfl) ?_
      refine A_done (by kernel_rfl) ?_
      refine N_then ?_
      refine C_cond rfl (fun hb_22 => ?_) (fun hb_22 => ?_)
      · -- decide (((a.getD (i).toNat default).length : Int) ≠ ((b.getD (i).toNat default).length : Int)) = true
        have hx_23 := of_decide_eq_true hb_22
        refine C_seq ?_
        refine C_region rfl ?_
        refine T_pv rfl (pv_assign rfl) ?_
        refine T_nil ?_
        refine N_then ?_
        refine C_ret0 ?_
        refine R_then ?_
        refine R_block ?_
        refine R_then ?_
        refine R_loop ?_
        refine R_block ?_
        refine R_then ?_
        -- ret 1: .bool false
        refine Q_ret (vs := [.bool false]) ⟨rfl, trivial⟩ (L' := []) [] trivial (by simp) (by decide) (⟨false, rfl, rfl, rfl, ?_⟩)
        · exact (eqL_at (i := i) (fun e => by rw [e] at hx_23; first | exact hx_23 rfl | exact hx_23 ⟨rfl, rfl⟩)).symm
      · -- decide (((a.getD (i).toNat default).length : Int) ≠ ((b.getD (i).toNat default).length : Int)) = false
        have hx_24 := of_decide_eq_false hb_22
        refine C_skip ?_
        refine N_then ?_
        refine C_seq ?_
        refine C_region rfl ?_
        refine T_pv rfl (pv_assign rfl) ?_
        refine T_nil ?_
        refine N_then ?_
        refine C_block ?_
        refine C_loop (fun (x : Int) => (S, [], [(0, .slice Aa a.length ca), (1, .slice Ab b.length cb), (7, .slice Aa a.length ca), (8, .int .i64 (a.length : Int)), (9, .slice Ab b.length cb), (10, .int .i64 (b.length : Int)), (11, .bool (decide ((a.length : Int) ≠ (b.length : Int)))), (5, .int .i64 i), (12, .int .i64 i), (13, .slice Aa a.length ca), (14, .int .i64 (a.length : Int)), (15, .bool (decide (i < (a.length : Int)))), (18, .slice Aa a.length ca), (19, .int .i64 i), (20, .pointer (some (adr Aa ((i).toNat * 1)))), (21, .slice A_11 ((a.getD (i).toNat default).length) c_12), (22, .int .i64 ((a.getD (i).toNat default).length : Int)), (23, .slice Ab b.length cb), (24, .int .i64 i), (25, .pointer (some (adr Ab ((i).toNat * 1)))), (26, .slice A_18 ((b.getD (i).toNat default).length) c_19), (27, .int .i64 ((b.getD (i).toNat default).length : Int)), (28, .bool (decide (((a.getD (i).toNat default).length : Int) ≠ ((b.getD (i).toNat default).length : Int)))), (6, .int .i64 x)])) (fun (x : Int) => 0 ≤ x ∧ x ≤ (a.getD (i).toNat default).length ∧ (a.getD (i).toNat default).take (x).toNat = (b.getD (i).toNat default).take (x).toNat) (fun (x : Int) => ((a.getD (i).toNat default).length - x).toNat) (0) ⟨by omega, by omega, by simp⟩ rfl trivial ⟨rfl, rfl, rfl, rfl, rfl, rfl, rfl, rfl, rfl, rfl, rfl, rfl, rfl, rfl, rfl, rfl, rfl, rfl, rfl, rfl, rfl, rfl, rfl, rfl, trivial⟩ ?_
        rintro j ⟨s0, s1, s2⟩
        dsimp only
        refine C_seq ?_
        refine C_seq ?_
        refine C_region rfl ?_
        refine T_pv rfl (pv_move rfl) ?_
        refine T_pv rfl (pv_move rfl) ?_
        refine T_pv rfl (pv_move rfl) ?_
        refine T_pv rfl (pv_idx ha rfl rfl el33 sz50 (by omega) (by omega)) ?_
        refine T_pv rfl (pv_load rfl ag50 ((he_10 _ _ (ImLe.refl _)).zero rfl)) ?_
        refine T_pv rfl (pv_len rfl el50) ?_
        refine T_pv rfl (pv_lss rfl rfl) ?_
        refine T_nil ?_
        refine N_then ?_
        refine C_cond rfl (fun hb_26 => ?_) (fun hb_26 => ?_)
        · -- decide (j < ((a.getD (i).toNat default).length : Int)) = true
          have hx_27 := of_decide_eq_true hb_26
          refine C_skip ?_
          refine N_then ?_
          refine C_seq ?_
          refine C_block ?_
          refine C_seq ?_
          refine C_drawS (S) [] 15 (by kernel_rfl) rfl (fun h0_28 => ?_)
          refine A_take (i := 0) rfl (by kernel_rfl) (held_le trivial (ImLe.refl _) h0_28) rfl (pv_move rfl) ?_
          refine A_take (i := 1) rfl (by kernel_rfl) (held_le trivial (ImLe.refl _) h0_28) rfl (pv_move rfl) ?_
          refine A_take (i := 2) rfl (by kernel_rfl) (held_le trivial (ImLe.refl _) h0_28) rfl (pv_idx ha rfl rfl el33 sz50 (by omega) (by omega)) ?_
          refine A_take (i := 3) rfl (by kernel_rfl) (held_le trivial (ImLe.refl _) h0_28) rfl (pv_load rfl ag50 ((he_10 _ _ (ImLe.refl _)).zero rfl)) ?_
          refine A_take (i := 4) rfl (by kernel_rfl) (held_le trivial (ImLe.refl _) h0_28) rfl (pv_move rfl) ?_
          obtain ⟨us_29, hk_30, he_31⟩ := RdA.elt h_13 (i := j) (by omega) (by omega)
          obtain ⟨rfl, h_32, h_33⟩ := hk_30
          have hq_34 := InR.i64 h_32
          have hq_35 := InR.i64 h_33
          refine A_take (i := 5) rfl (by kernel_rfl) (held_le trivial (ImLe.refl _) h0_28) rfl (pv_idx h_13 rfl rfl el50 sz57 (by omega) (by omega)) ?_
          refine A_take (i := 6) rfl (by kernel_rfl) (held_le trivial (ImLe.refl _) h0_28) rfl (pv_load_aggE (cs := [.int .i64 (((a.getD (i).toNat default).getD (j).toNat default).book), .int .i64 (((a.getD (i).toNat default).getD (j).toNat default).len)]) rfl ag57 sz57 (he_31 _ _ (ImLe.refl _))) ?_
          refine A_take (i := 7) rfl (by kernel_rfl) (held_le trivial (ImLe.refl _) h0_28) rfl (pv_move rfl) ?_
          refine A_take (i := 8) rfl (by kernel_rfl) (held_le trivial (ImLe.refl _) h0_28) rfl (pv_move rfl) ?_
          refine A_take (i := 9) rfl (by kernel_rfl) (held_le trivial (ImLe.refl _) h0_28) rfl (pv_idx hb rfl rfl el33 sz50 (by omega) (by omega)) ?_
          refine A_take (i := 10) rfl (by kernel_rfl) (held_le trivial (ImLe.refl _) h0_28) rfl (pv_load rfl ag50 ((he_17 _ _ (ImLe.refl _)).zero rfl)) ?_
          refine A_take (i := 11) rfl (by kernel_rfl) (held_le trivial (ImLe.refl _) h0_28) rfl (pv_move rfl) ?_
          obtain ⟨us_36, hk_37, he_38⟩ := RdA.elt h_20 (i := j) (by omega) (by omega)
          obtain ⟨rfl, h_39, h_40⟩ := hk_37
          have hq_41 := InR.i64 h_39
          have hq_42 := InR.i64 h_40
          refine A_take (i := 12) rfl (by kernel_rfl) (held_le trivial (ImLe.refl _) h0_28) rfl (pv_idx h_20 rfl rfl el50 sz57 (by omega) (by omega)) ?_
          refine A_take (i := 13) rfl (by kernel_rfl) (held_le trivial (ImLe.refl _) h0_28) rfl (pv_load_aggE (cs := [.int .i64 (((b.getD (i).toNat default).getD (j).toNat default).book), .int .i64 (((b.getD (i).toNat default).getD (j).toNat default).len)]) rfl ag57 sz57 (he_38 _ _ (ImLe.refl _))) ?_
          refine A_take (i := 14) rfl (by kernel_rfl) (held_le trivial (ImLe.refl _) h0_28) rfl (pv_ne2 rfl rfl tw57) ?_
          refine A_done (by kernel_rfl) ?_
          refine N_then ?_
          refine C_cond rfl (fun hb_43 => ?_) (fun hb_43 => ?_)
          · -- decide ¬ ((((a.getD (i).toNat default).getD (j).toNat default).book) = (((b.getD (i).toNat default).getD (j).toNat default).book) ∧ (((a.getD (i).toNat default).getD (j).toNat default).len) = (((b.getD (i).toNat default).getD (j).toNat default).len)) = true
            have hx_44 := of_decide_eq_true hb_43
            refine C_seq ?_
            refine C_region rfl ?_
            refine T_pv rfl (pv_assign rfl) ?_
            refine T_nil ?_
            refine N_then ?_
            refine C_ret0 ?_
            refine R_block ?_
            refine R_then ?_
            refine R_loop ?_
            refine R_block ?_
            refine R_block ?_
            refine R_then ?_
            refine R_loop ?_
            refine R_block ?_
            refine R_then ?_
            -- ret 2: .bool false
            refine Q_ret (vs := [.bool false]) ⟨rfl, trivial⟩ (L' := []) [] trivial (by simp) (by decide) (⟨false, rfl, rfl, rfl, ?_⟩)
            · exact (eqL_at (i := i) (fun e => by rw [e] at hx_44; first | exact hx_44 rfl | exact hx_44 ⟨rfl, rfl⟩)).symm
          · -- decide ¬ ((((a.getD (i).toNat default).getD (j).toNat default).book) = (((b.getD (i).toNat default).getD (j).toNat default).book) ∧ (((a.getD (i).toNat default).getD (j).toNat default).len) = (((b.getD (i).toNat default).getD (j).toNat default).len)) = false
            have hx_45 := of_decide_eq_false hb_43
            refine C_skip ?_
            refine N_block ?_
            refine N_then ?_
            refine C_region rfl ?_
            refine T_pv rfl (pv_move rfl) ?_
            have hr_46 : InR .i64 (j + 1) := inR_i64 (by omega) (by omega)
            refine T_pv rfl (pv_add rfl rfl hr_46) ?_
            refine T_pv rfl (pv_assign rfl) ?_
            refine T_nil ?_
            refine N_next (j + 1) ⟨by omega, by omega, eqL_next (by omega) (by omega) (by omega) s2 (by rw [GSection.eq_iff]; simpa using hx_45)⟩ (by first | omega | (dsimp only; omega)) rfl trivial ⟨rfl, rfl, rfl, rfl, rfl, rfl, rfl, rfl, rfl, rfl, rfl, rfl, rfl, rfl, rfl, rfl, rfl, rfl, rfl, rfl, rfl, rfl, rfl, rfl, trivial⟩
        · -- decide (j < ((a.getD (i).toNat default).length : Int)) = false
          have hx_47 := of_decide_eq_false hb_26
          refine C_exit ?_
          refine X_then ?_
          refine X_loop ?_
          refine X_block ?_
          refine N_block ?_
          refine N_then ?_
          refine C_region rfl ?_
          refine T_pv rfl (pv_move rfl) ?_
          have hr_48 : InR .i64 (i + 1) := inR_i64 (by omega) (by omega)
          refine T_pv rfl (pv_add rfl rfl hr_48) ?_
          refine T_pv rfl (pv_assign rfl) ?_
          refine T_nil ?_
          refine N_next (i + 1) ⟨by omega, by omega, eqL_next (by omega) (by omega) (by omega) q2 (of_decide_eq_true (eqL_all (i := j) (by omega) (by omega) s2).symm)⟩ (by first | omega | (dsimp only; omega)) rfl trivial ⟨rfl, rfl, rfl, rfl, rfl, rfl, rfl, rfl, trivial⟩
    · -- decide (i < (a.length : Int)) = false
      have hx_49 := of_decide_eq_false hb_5
      refine C_exit ?_
      refine X_then ?_
      refine X_loop ?_
      refine X_block ?_
      refine N_then ?_
      refine C_seq ?_
      refine C_region rfl ?_
      refine T_pv rfl (pv_assign rfl) ?_
      refine T_nil ?_
      refine N_then ?_
      refine C_ret0 ?_
      -- ret 3: .bool true
      refine Q_ret (vs := [.bool true]) ⟨rfl, trivial⟩ (L' := []) [] trivial (by simp) (by decide) (⟨true, rfl, rfl, rfl, ?_⟩)
      · exact (eqL_all (by omega) (by omega) q2).symm

set_option maxRecDepth 100000 in
theorem f_r18_SameTns (S : Im) (Aa : Option Addr) (ca : Nat) (a : List (List GFilter)) (ha : RdA (kSl kGFilter) S Aa ca a) (Ab : Option Addr) (cb : Nat) (b : List (List GFilter)) (hb : RdA (kSl kGFilter) S Ab cb b) : Fn Try.prog 40 [.slice Aa a.length ca, .slice Ab b.length cb] S [] fun v S' L' => ∃ (r0 : Bool), v = .bool r0 ∧ S = S' ∧ L' = [] ∧ (decide (a = b)) = r0 := by
  have hb_a := ha.bd
  have hb_b := hb.bd
  refine Fn_intro 88 Try.func40 rfl rfl rfl fun w0 => ?_
  refine C_seq ?_
  refine C_region rfl ?_
  refine T_pv rfl (pv_assign rfl) ?_
  refine T_nil ?_
  refine N_then ?_
  refine C_seq ?_
  refine C_seq ?_
  refine C_region rfl ?_
  refine T_pv rfl (pv_move rfl) ?_
  refine T_pv rfl (pv_len rfl el35) ?_
  refine T_pv rfl (pv_move rfl) ?_
  refine T_pv rfl (pv_len rfl el35) ?_
  refine T_pv rfl (pv_nei rfl rfl) ?_
  refine T_nil ?_
  refine N_then ?_
  refine C_cond rfl (fun hb_1 => ?_) (fun hb_1 => ?_)
  · -- decide ((a.length : Int) ≠ (b.length : Int)) = true
    have hx_2 := of_decide_eq_true hb_1
    refine C_seq ?_
    refine C_region rfl ?_
    refine T_pv rfl (pv_assign rfl) ?_
    refine T_nil ?_
    refine N_then ?_
    refine C_ret0 ?_
    refine R_then ?_
    -- ret 0: .bool false
    refine Q_ret (vs := [.bool false]) ⟨rfl, trivial⟩ (L' := []) [] trivial (by simp) (by decide) (⟨false, rfl, rfl, rfl, ?_⟩)
    · exact (eqL_len hx_2).symm
  · -- decide ((a.length : Int) ≠ (b.length : Int)) = false
    have hx_3 := of_decide_eq_false hb_1
    refine C_skip ?_
    refine N_then ?_
    refine C_seq ?_
    refine C_seq ?_
    refine C_region rfl ?_
    refine T_pv rfl (pv_assign rfl) ?_
    refine T_nil ?_
    refine N_then ?_
    refine C_block ?_
    refine C_loop (fun (x : Int) => (S, [], [(0, .slice Aa a.length ca), (1, .slice Ab b.length cb), (9, .slice Aa a.length ca), (10, .int .i64 (a.length : Int)), (11, .slice Ab b.length cb), (12, .int .i64 (b.length : Int)), (13, .bool (decide ((a.length : Int) ≠ (b.length : Int)))), (5, .int .i64 x)])) (fun (x : Int) => 0 ≤ x ∧ x ≤ a.length ∧ a.take (x).toNat = b.take (x).toNat) (fun (x : Int) => (a.length - x).toNat) (0) ⟨by omega, by omega, by simp⟩ rfl trivial ⟨rfl, rfl, rfl, rfl, rfl, rfl, rfl, rfl, trivial⟩ ?_
    rintro i ⟨q0, q1, q2⟩
    dsimp only
    refine C_seq ?_
    refine C_seq ?_
    refine C_region rfl ?_
    refine T_pv rfl (pv_move rfl) ?_
    refine T_pv rfl (pv_move rfl) ?_
    refine T_pv rfl (pv_len rfl el35) ?_
    refine T_pv rfl (pv_lss rfl rfl) ?_
    refine T_nil ?_
    refine N_then ?_
    refine C_cond rfl (fun hb_5 => ?_) (fun hb_5 => ?_)
    · -- decide (i < (a.length : Int)) = true
      have hx_6 := of_decide_eq_true hb_5
      refine C_skip ?_
      refine N_then ?_
      refine C_seq ?_
      refine C_block ?_
      refine C_seq ?_
      refine C_seq ?_
      refine C_drawS (S) [] 11 (by kernel_rfl) rfl (fun h0_7 => ?_)
      refine A_take (i := 0) rfl (by kernel_rfl) (held_le trivial (ImLe.refl _) h0_7) rfl (pv_move rfl) ?_
      refine A_take (i := 1) rfl (by kernel_rfl) (held_le trivial (ImLe.refl _) h0_7) rfl (pv_move rfl) ?_
      obtain ⟨us_8, hk_9, he_10⟩ := RdA.elt ha (i := i) (by omega) (by omega)
      obtain ⟨A_11, c_12, rfl, h_13⟩ := hk_9
      have hb_14 := h_13.bd
      refine A_take (i := 2) rfl (by kernel_rfl) (held_le trivial (ImLe.refl _) h0_7) rfl (pv_idx ha rfl rfl el35 sz51 (by omega) (by omega)) ?_
      refine A_take (i := 3) rfl (by kernel_rfl) (held_le trivial (ImLe.refl _) h0_7) rfl (pv_load rfl ag51 ((he_10 _ _ (ImLe.refl _)).zero rfl)) ?_
      refine A_take (i := 4) rfl (by kernel_rfl) (held_le trivial (ImLe.refl _) h0_7) rfl (pv_len rfl el51) ?_
      refine A_take (i := 5) rfl (by kernel_rfl) (held_le trivial (ImLe.refl _) h0_7) rfl (pv_move rfl) ?_
      refine A_take (i := 6) rfl (by kernel_rfl) (held_le trivial (ImLe.refl _) h0_7) rfl (pv_move rfl) ?_
      obtain ⟨us_15, hk_16, he_17⟩ := RdA.elt hb (i := i) (by omega) (by omega)
      obtain ⟨A_18, c_19, rfl, h_20⟩ := hk_16
      have hb_21 := h_20.bd
      refine A_take (i := 7) rfl (by kernel_rfl) (held_le trivial (ImLe.refl _) h0_7) rfl (pv_idx hb rfl rfl el35 sz51 (by omega) (by omega)) ?_
      refine A_take (i := 8) rfl (by kernel_rfl) (held_le trivial (ImLe.refl _) h0_7) rfl (pv_load rfl ag51 ((he_17 _ _ (ImLe.refl _)).zero rfl)) ?_
      refine A_take (i := 9) rfl (by kernel_rfl) (held_le trivial (ImLe.refl _) h0_7) rfl (pv_len rfl el51) ?_
      refine A_take (i := 10) rfl (by kernel_rfl) (held_le trivial (ImLe.refl _) h0_7) rfl (pv_nei rfl rfl) ?_
      refine A_done (by kernel_rfl) ?_
      refine N_then ?_
      refine C_cond rfl (fun hb_22 => ?_) (fun hb_22 => ?_)
      · -- decide (((a.getD (i).toNat default).length : Int) ≠ ((b.getD (i).toNat default).length : Int)) = true
        have hx_23 := of_decide_eq_true hb_22
        refine C_seq ?_
        refine C_region rfl ?_
        refine T_pv rfl (pv_assign rfl) ?_
        refine T_nil ?_
        refine N_then ?_
        refine C_ret0 ?_
        refine R_then ?_
        refine R_block ?_
        refine R_then ?_
        refine R_loop ?_
        refine R_block ?_
        refine R_then ?_
        -- ret 1: .bool false
        refine Q_ret (vs := [.bool false]) ⟨rfl, trivial⟩ (L' := []) [] trivial (by simp) (by decide) (⟨false, rfl, rfl, rfl, ?_⟩)
        · exact (eqL_at (i := i) (fun e => by rw [e] at hx_23; first | exact hx_23 rfl | exact hx_23 ⟨rfl, rfl⟩)).symm
      · -- decide (((a.getD (i).toNat default).length : Int) ≠ ((b.getD (i).toNat default).length : Int)) = false
        have hx_24 := of_decide_eq_false hb_22
        refine C_skip ?_
        refine N_then ?_
        refine C_seq ?_
        refine C_region rfl ?_
        refine T_pv rfl (pv_assign rfl) ?_
        refine T_nil ?_
        refine N_then ?_
        refine C_block ?_
        refine C_loop (fun (x : Int) => (S, [], [(0, .slice Aa a.length ca), (1, .slice Ab b.length cb), (9, .slice Aa a.length ca), (10, .int .i64 (a.length : Int)), (11, .slice Ab b.length cb), (12, .int .i64 (b.length : Int)), (13, .bool (decide ((a.length : Int) ≠ (b.length : Int)))), (5, .int .i64 i), (14, .int .i64 i), (15, .slice Aa a.length ca), (16, .int .i64 (a.length : Int)), (17, .bool (decide (i < (a.length : Int)))), (20, .slice Aa a.length ca), (21, .int .i64 i), (22, .pointer (some (adr Aa ((i).toNat * 1)))), (23, .slice A_11 ((a.getD (i).toNat default).length) c_12), (24, .int .i64 ((a.getD (i).toNat default).length : Int)), (25, .slice Ab b.length cb), (26, .int .i64 i), (27, .pointer (some (adr Ab ((i).toNat * 1)))), (28, .slice A_18 ((b.getD (i).toNat default).length) c_19), (29, .int .i64 ((b.getD (i).toNat default).length : Int)), (30, .bool (decide (((a.getD (i).toNat default).length : Int) ≠ ((b.getD (i).toNat default).length : Int)))), (6, .int .i64 x)])) (fun (x : Int) => 0 ≤ x ∧ x ≤ (a.getD (i).toNat default).length ∧ (a.getD (i).toNat default).take (x).toNat = (b.getD (i).toNat default).take (x).toNat) (fun (x : Int) => ((a.getD (i).toNat default).length - x).toNat) (0) ⟨by omega, by omega, by simp⟩ rfl trivial ⟨rfl, rfl, rfl, rfl, rfl, rfl, rfl, rfl, rfl, rfl, rfl, rfl, rfl, rfl, rfl, rfl, rfl, rfl, rfl, rfl, rfl, rfl, rfl, rfl, trivial⟩ ?_
        rintro j ⟨s0, s1, s2⟩
        dsimp only
        refine C_seq ?_
        refine C_seq ?_
        refine C_region rfl ?_
        refine T_pv rfl (pv_move rfl) ?_
        refine T_pv rfl (pv_move rfl) ?_
        refine T_pv rfl (pv_move rfl) ?_
        refine T_pv rfl (pv_idx ha rfl rfl el35 sz51 (by omega) (by omega)) ?_
        refine T_pv rfl (pv_load rfl ag51 ((he_10 _ _ (ImLe.refl _)).zero rfl)) ?_
        refine T_pv rfl (pv_len rfl el51) ?_
        refine T_pv rfl (pv_lss rfl rfl) ?_
        refine T_nil ?_
        refine N_then ?_
        refine C_cond rfl (fun hb_26 => ?_) (fun hb_26 => ?_)
        · -- decide (j < ((a.getD (i).toNat default).length : Int)) = true
          have hx_27 := of_decide_eq_true hb_26
          refine C_skip ?_
          refine N_then ?_
          refine C_seq ?_
          refine C_block ?_
          refine C_seq ?_
          refine C_region rfl ?_
          refine T_pv rfl (pv_move rfl) ?_
          refine T_pv rfl (pv_move rfl) ?_
          refine T_pv rfl (pv_idx ha rfl rfl el35 sz51 (by omega) (by omega)) ?_
          refine T_pv rfl (pv_load rfl ag51 ((he_10 _ _ (ImLe.refl _)).zero rfl)) ?_
          refine T_pv rfl (pv_move rfl) ?_
          obtain ⟨us_28, hk_29, he_30⟩ := RdA.elt h_13 (i := j) (by omega) (by omega)
          obtain ⟨A_31, c_32, rfl, h_33, h_34, h_35⟩ := hk_29
          have hq_36 := InR.i64 h_33
          have hq_37 := InR.i64 h_34
          have hb_38 := h_35.bd
          refine T_pv rfl (pv_idx h_13 rfl rfl el51 sz53 (by omega) (by omega)) ?_
          refine T_pv rfl (pv_load_aggE (cs := [.int .i64 (((a.getD (i).toNat default).getD (j).toNat default).len), .int .i64 (((a.getD (i).toNat default).getD (j).toNat default).order), .bool (((a.getD (i).toNat default).getD (j).toNat default).down), .bool (((a.getD (i).toNat default).getD (j).toNat default).fine), .slice A_31 ((((a.getD (i).toNat default).getD (j).toNat default).coefs).length) c_32]) rfl ag53 sz53 (he_30 _ _ (ImLe.refl _))) ?_
          refine T_cons (op_alloc (cs := [.int .i64 0, .int .i64 0, .bool false, .bool false, .slice none 0 0]) (lt_of rfl) 101 zr53 rfl fun g_39 => ?_)
          refine T_cons (op_store_any (vs := [.int .i64 (((a.getD (i).toNat default).getD (j).toNat default).len), .int .i64 (((a.getD (i).toNat default).getD (j).toNat default).order), .bool (((a.getD (i).toNat default).getD (j).toNat default).down), .bool (((a.getD (i).toNat default).getD (j).toNat default).fine), .slice A_31 ((((a.getD (i).toNat default).getD (j).toNat default).coefs).length) c_32]) (cs' := [.int .i64 (((a.getD (i).toNat default).getD (j).toNat default).len), .int .i64 (((a.getD (i).toNat default).getD (j).toNat default).order), .bool (((a.getD (i).toNat default).getD (j).toNat default).down), .bool (((a.getD (i).toNat default).getD (j).toNat default).fine), .slice A_31 ((((a.getD (i).toNat default).getD (j).toNat default).coefs).length) c_32]) 101 rfl rfl rfl sz53 (by simp [Value.oneCell']) rfl (Nat.le_of_ble_eq_true rfl) rfl ?_)
          refine T_nil ?_
          refine N_then ?_
          refine C_seq ?_
          refine C_region rfl ?_
          refine T_pv rfl (pv_move rfl) ?_
          refine T_pv rfl (pv_move rfl) ?_
          refine T_pv rfl (pv_idx hb rfl rfl el35 sz51 (by omega) (by omega)) ?_
          refine T_pv rfl (pv_load rfl ag51 ((he_17 _ _ (ImLe.refl _)).zero rfl)) ?_
          refine T_pv rfl (pv_move rfl) ?_
          obtain ⟨us_40, hk_41, he_42⟩ := RdA.elt h_20 (i := j) (by omega) (by omega)
          obtain ⟨A_43, c_44, rfl, h_45, h_46, h_47⟩ := hk_41
          have hq_48 := InR.i64 h_45
          have hq_49 := InR.i64 h_46
          have hb_50 := h_47.bd
          refine T_pv rfl (pv_idx h_20 rfl rfl el51 sz53 (by omega) (by omega)) ?_
          refine T_pv rfl (pv_load_aggE (cs := [.int .i64 (((b.getD (i).toNat default).getD (j).toNat default).len), .int .i64 (((b.getD (i).toNat default).getD (j).toNat default).order), .bool (((b.getD (i).toNat default).getD (j).toNat default).down), .bool (((b.getD (i).toNat default).getD (j).toNat default).fine), .slice A_43 ((((b.getD (i).toNat default).getD (j).toNat default).coefs).length) c_44]) rfl ag53 sz53 (he_42 _ _ (ImLe.refl _))) ?_
          refine T_cons (op_alloc (cs := [.int .i64 0, .int .i64 0, .bool false, .bool false, .slice none 0 0]) (lt_of rfl) 102 zr53 rfl fun g_51 => ?_)
          refine T_cons (op_store_any (vs := [.int .i64 (((b.getD (i).toNat default).getD (j).toNat default).len), .int .i64 (((b.getD (i).toNat default).getD (j).toNat default).order), .bool (((b.getD (i).toNat default).getD (j).toNat default).down), .bool (((b.getD (i).toNat default).getD (j).toNat default).fine), .slice A_43 ((((b.getD (i).toNat default).getD (j).toNat default).coefs).length) c_44]) (cs' := [.int .i64 (((b.getD (i).toNat default).getD (j).toNat default).len), .int .i64 (((b.getD (i).toNat default).getD (j).toNat default).order), .bool (((b.getD (i).toNat default).getD (j).toNat default).down), .bool (((b.getD (i).toNat default).getD (j).toNat default).fine), .slice A_43 ((((b.getD (i).toNat default).getD (j).toNat default).coefs).length) c_44]) 102 rfl rfl rfl sz53 (by simp [Value.oneCell']) rfl (Nat.le_of_ble_eq_true rfl) rfl ?_)
          refine T_nil ?_
          refine N_then ?_
          refine C_seq ?_
          refine C_region rfl ?_
          refine T_pv rfl (pv_fieldAddr rfl fl_53_0) ?_
          refine T_pv rfl (pv_load rfl ag3 (Cell.blk 101 rfl rfl)) ?_
          refine T_pv rfl (pv_fieldAddr rfl fl_53_0) ?_
          refine T_pv rfl (pv_load rfl ag3 (Cell.blk 102 rfl rfl)) ?_
          refine T_pv rfl (pv_nei rfl rfl) ?_
          refine T_pv rfl (pv_move rfl) ?_
          refine T_gs (dj := 59) rfl (fun hb_52 => ?_) (fun hb_52 => ?_)
          · -- decide ((((a.getD (i).toNat default).getD (j).toNat default).len) ≠ (((b.getD (i).toNat default).getD (j).toNat default).len)) = true
            have hx_53 := of_decide_eq_true hb_52
            refine T_gn rfl rfl hb_52 rfl ?_
            refine T_gn rfl rfl hb_52 rfl ?_
            refine T_gn rfl rfl hb_52 rfl ?_
            refine T_gn rfl rfl hb_52 rfl ?_
            refine T_gn rfl rfl hb_52 rfl ?_
            refine T_pv rfl (pv_pick_t rfl hb_52 rfl) ?_
            refine T_pv rfl (pv_move rfl) ?_
            refine T_gn rfl rfl rfl rfl ?_
            refine T_gn rfl rfl rfl rfl ?_
            refine T_gn rfl rfl rfl rfl ?_
            refine T_gn rfl rfl rfl rfl ?_
            refine T_gn rfl rfl rfl rfl ?_
            refine T_pv rfl (pv_pick_t rfl rfl rfl) ?_
            refine T_pv rfl (pv_move rfl) ?_
            refine T_gn rfl rfl rfl rfl ?_
            refine T_gn rfl rfl rfl rfl ?_
            refine T_gn rfl rfl rfl rfl ?_
            refine T_gn rfl rfl rfl rfl ?_
            refine T_gn rfl rfl rfl rfl ?_
            refine T_pv rfl (pv_pick_t rfl rfl rfl) ?_
            refine T_pv rfl (pv_move rfl) ?_
            refine T_gn rfl rfl rfl rfl ?_
            refine T_gn rfl rfl rfl rfl ?_
            refine T_gn rfl rfl rfl rfl ?_
            refine T_gn rfl rfl rfl rfl ?_
            refine T_gn rfl rfl rfl rfl ?_
            refine T_gn rfl rfl rfl rfl ?_
            refine T_pv rfl (pv_pick_t rfl rfl rfl) ?_
            refine T_nil ?_
            refine N_then ?_
            refine C_condt rfl rfl ?_
            refine C_seq ?_
            refine C_region rfl ?_
            refine T_pv rfl (pv_assign rfl) ?_
            refine T_nil ?_
            refine N_then ?_
            refine C_ret0 ?_
            refine R_block ?_
            refine R_then ?_
            refine R_loop ?_
            refine R_block ?_
            refine R_block ?_
            refine R_then ?_
            refine R_loop ?_
            refine R_block ?_
            refine R_then ?_
            -- ret 2: .bool false
            refine Q_ret (vs := [.bool false]) ⟨rfl, trivial⟩ (L' := []) [] trivial (by simp) (by decide) (⟨false, rfl, rfl, rfl, ?_⟩)
            · exact (eqL_at (i := i) (fun e => by rw [e] at hx_53; first | exact hx_53 rfl | exact hx_53 ⟨rfl, rfl⟩)).symm
          · -- decide ((((a.getD (i).toNat default).getD (j).toNat default).len) ≠ (((b.getD (i).toNat default).getD (j).toNat default).len)) = false
            have hx_54 := of_decide_eq_false hb_52
            refine T_gy rfl rfl hb_52 rfl (pv_fieldAddr rfl fl_53_1) ?_
            refine T_gy rfl rfl hb_52 rfl (pv_load rfl ag3 (Cell.blk 101 rfl rfl)) ?_
            refine T_gy rfl rfl hb_52 rfl (pv_fieldAddr rfl fl_53_1) ?_
            refine T_gy rfl rfl hb_52 rfl (pv_load rfl ag3 (Cell.blk 102 rfl rfl)) ?_
            refine T_gy rfl rfl hb_52 rfl (pv_nei rfl rfl) ?_
            refine T_pv rfl (pv_pick_f rfl hb_52 rfl) ?_
            refine T_pv rfl (pv_move rfl) ?_
            refine T_gs (dj := 66) rfl (fun hb_55 => ?_) (fun hb_55 => ?_)
            · -- decide ((((a.getD (i).toNat default).getD (j).toNat default).order) ≠ (((b.getD (i).toNat default).getD (j).toNat default).order)) = true
              have hx_56 := of_decide_eq_true hb_55
              refine T_gn rfl rfl hb_55 rfl ?_
              refine T_gn rfl rfl hb_55 rfl ?_
              refine T_gn rfl rfl hb_55 rfl ?_
              refine T_gn rfl rfl hb_55 rfl ?_
              refine T_gn rfl rfl hb_55 rfl ?_
              refine T_pv rfl (pv_pick_t rfl hb_55 rfl) ?_
              refine T_pv rfl (pv_move rfl) ?_
              refine T_gn rfl rfl rfl rfl ?_
              refine T_gn rfl rfl rfl rfl ?_
              refine T_gn rfl rfl rfl rfl ?_
              refine T_gn rfl rfl rfl rfl ?_
              refine T_gn rfl rfl rfl rfl ?_
              refine T_pv rfl (pv_pick_t rfl rfl rfl) ?_
              refine T_pv rfl (pv_move rfl) ?_
              refine T_gn rfl rfl rfl rfl ?_
              refine T_gn rfl rfl rfl rfl ?_
              refine T_gn rfl rfl rfl rfl ?_
              refine T_gn rfl rfl rfl rfl ?_
              refine T_gn rfl rfl rfl rfl ?_
              refine T_gn rfl rfl rfl rfl ?_
              refine T_pv rfl (pv_pick_t rfl rfl rfl) ?_
              refine T_nil ?_
              refine N_then ?_
              refine C_condt rfl rfl ?_
              refine C_seq ?_
              refine C_region rfl ?_
              refine T_pv rfl (pv_assign rfl) ?_
              refine T_nil ?_
              refine N_then ?_
              refine C_ret0 ?_
              refine R_block ?_
              refine R_then ?_
              refine R_loop ?_
              refine R_block ?_
              refine R_block ?_
              refine R_then ?_
              refine R_loop ?_
              refine R_block ?_
              refine R_then ?_
              -- ret 3: .bool false
              refine Q_ret (vs := [.bool false]) ⟨rfl, trivial⟩ (L' := []) [] trivial (by simp) (by decide) (⟨false, rfl, rfl, rfl, ?_⟩)
              · exact (eqL_at (i := i) (fun e => by rw [e] at hx_56; first | exact hx_56 rfl | exact hx_56 ⟨rfl, rfl⟩)).symm
            · -- decide ((((a.getD (i).toNat default).getD (j).toNat default).order) ≠ (((b.getD (i).toNat default).getD (j).toNat default).order)) = false
              have hx_57 := of_decide_eq_false hb_55
              refine T_gy rfl rfl hb_55 rfl (pv_fieldAddr rfl fl_53_2) ?_
              refine T_gy rfl rfl hb_55 rfl (pv_load rfl ag4 (Cell.blk 101 rfl rfl)) ?_
              refine T_gy rfl rfl hb_55 rfl (pv_fieldAddr rfl fl_53_2) ?_
              refine T_gy rfl rfl hb_55 rfl (pv_load rfl ag4 (Cell.blk 102 rfl rfl)) ?_
              refine T_gy rfl rfl hb_55 rfl (pv_neqbd rfl rfl un4) ?_
              refine T_pv rfl (pv_pick_f rfl hb_55 rfl) ?_
              refine T_pv rfl (pv_move rfl) ?_
              refine T_gs (dj := 73) rfl (fun hb_58 => ?_) (fun hb_58 => ?_)
              · -- decide ((((a.getD (i).toNat default).getD (j).toNat default).down) ≠ (((b.getD (i).toNat default).getD (j).toNat default).down)) = true
                have hx_59 := of_decide_eq_true hb_58
                refine T_gn rfl rfl hb_58 rfl ?_
                refine T_gn rfl rfl hb_58 rfl ?_
                refine T_gn rfl rfl hb_58 rfl ?_
                refine T_gn rfl rfl hb_58 rfl ?_
                refine T_gn rfl rfl hb_58 rfl ?_
                refine T_pv rfl (pv_pick_t rfl hb_58 rfl) ?_
                refine T_pv rfl (pv_move rfl) ?_
                refine T_gn rfl rfl rfl rfl ?_
                refine T_gn rfl rfl rfl rfl ?_
                refine T_gn rfl rfl rfl rfl ?_
                refine T_gn rfl rfl rfl rfl ?_
                refine T_gn rfl rfl rfl rfl ?_
                refine T_gn rfl rfl rfl rfl ?_
                refine T_pv rfl (pv_pick_t rfl rfl rfl) ?_
                refine T_nil ?_
                refine N_then ?_
                refine C_condt rfl rfl ?_
                refine C_seq ?_
                refine C_region rfl ?_
                refine T_pv rfl (pv_assign rfl) ?_
                refine T_nil ?_
                refine N_then ?_
                refine C_ret0 ?_
                refine R_block ?_
                refine R_then ?_
                refine R_loop ?_
                refine R_block ?_
                refine R_block ?_
                refine R_then ?_
                refine R_loop ?_
                refine R_block ?_
                refine R_then ?_
                -- ret 4: .bool false
                refine Q_ret (vs := [.bool false]) ⟨rfl, trivial⟩ (L' := []) [] trivial (by simp) (by decide) (⟨false, rfl, rfl, rfl, ?_⟩)
                · exact (eqL_at (i := i) (fun e => by rw [e] at hx_59; first | exact hx_59 rfl | exact hx_59 ⟨rfl, rfl⟩)).symm
              · -- decide ((((a.getD (i).toNat default).getD (j).toNat default).down) ≠ (((b.getD (i).toNat default).getD (j).toNat default).down)) = false
                have hx_60 := of_decide_eq_false hb_58
                refine T_gy rfl rfl hb_58 rfl (pv_fieldAddr rfl fl_53_3) ?_
                refine T_gy rfl rfl hb_58 rfl (pv_load rfl ag4 (Cell.blk 101 rfl rfl)) ?_
                refine T_gy rfl rfl hb_58 rfl (pv_fieldAddr rfl fl_53_3) ?_
                refine T_gy rfl rfl hb_58 rfl (pv_load rfl ag4 (Cell.blk 102 rfl rfl)) ?_
                refine T_gy rfl rfl hb_58 rfl (pv_neqbd rfl rfl un4) ?_
                refine T_pv rfl (pv_pick_f rfl hb_58 rfl) ?_
                refine T_pv rfl (pv_move rfl) ?_
                refine T_gs (dj := 80) rfl (fun hb_61 => ?_) (fun hb_61 => ?_)
                · -- decide ((((a.getD (i).toNat default).getD (j).toNat default).fine) ≠ (((b.getD (i).toNat default).getD (j).toNat default).fine)) = true
                  have hx_62 := of_decide_eq_true hb_61
                  refine T_gn rfl rfl hb_61 rfl ?_
                  refine T_gn rfl rfl hb_61 rfl ?_
                  refine T_gn rfl rfl hb_61 rfl ?_
                  refine T_gn rfl rfl hb_61 rfl ?_
                  refine T_gn rfl rfl hb_61 rfl ?_
                  refine T_gn rfl rfl hb_61 rfl ?_
                  refine T_pv rfl (pv_pick_t rfl hb_61 rfl) ?_
                  refine T_nil ?_
                  refine N_then ?_
                  refine C_condt rfl rfl ?_
                  refine C_seq ?_
                  refine C_region rfl ?_
                  refine T_pv rfl (pv_assign rfl) ?_
                  refine T_nil ?_
                  refine N_then ?_
                  refine C_ret0 ?_
                  refine R_block ?_
                  refine R_then ?_
                  refine R_loop ?_
                  refine R_block ?_
                  refine R_block ?_
                  refine R_then ?_
                  refine R_loop ?_
                  refine R_block ?_
                  refine R_then ?_
                  -- ret 5: .bool false
                  refine Q_ret (vs := [.bool false]) ⟨rfl, trivial⟩ (L' := []) [] trivial (by simp) (by decide) (⟨false, rfl, rfl, rfl, ?_⟩)
                  · exact (eqL_at (i := i) (fun e => by rw [e] at hx_62; first | exact hx_62 rfl | exact hx_62 ⟨rfl, rfl⟩)).symm
                · -- decide ((((a.getD (i).toNat default).getD (j).toNat default).fine) ≠ (((b.getD (i).toNat default).getD (j).toNat default).fine)) = false
                  have hx_63 := of_decide_eq_false hb_61
                  refine T_gy rfl rfl hb_61 rfl (pv_fieldAddr rfl fl_53_4) ?_
                  refine T_gy rfl rfl hb_61 rfl (pv_load rfl ag30 (Cell.blk 101 rfl rfl)) ?_
                  refine T_gy rfl rfl hb_61 rfl (pv_fieldAddr rfl fl_53_4) ?_
                  refine T_gy rfl rfl hb_61 rfl (pv_load rfl ag30 (Cell.blk 102 rfl rfl)) ?_
                  refine T_gyo rfl rfl hb_61 (op_call (fun _ h => by cases h; exact lt_of rfl) rfl rfl rfl en37 (f_Ints _ _ _ (((a.getD (i).toNat default).getD (j).toNat default).coefs) h_35 _ _ (((b.getD (i).toNat default).getD (j).toNat default).coefs) h_47) [] trivial (by simp) (by decide) ?_)
                  rintro v_67 S_65 L_68 ⟨r_64, rfl, rfl, rfl, rfl⟩ hle_66
                  refine ⟨rfl, ?_⟩
                  refine T_gy rfl rfl hb_61 rfl (pv_not rfl) ?_
                  refine T_pv rfl (pv_pick_f rfl hb_61 rfl) ?_
                  refine T_nil ?_
                  refine N_then ?_
                  refine C_cond rfl (fun hb_69 => ?_) (fun hb_69 => ?_)
                  · -- !(decide ((((a.getD (i).toNat default).getD (j).toNat default).coefs) = (((b.getD (i).toNat default).getD (j).toNat default).coefs))) = true
                    have hn_70 : (decide ((((a.getD (i).toNat default).getD (j).toNat default).coefs) = (((b.getD (i).toNat default).getD (j).toNat default).coefs))) = false := by simpa using hb_69
                    have hx_71 := of_decide_eq_false hn_70
                    refine C_seq ?_
                    refine C_region rfl ?_
                    refine T_pv rfl (pv_assign rfl) ?_
                    refine T_nil ?_
                    refine N_then ?_
                    refine C_ret0 ?_
                    refine R_block ?_
                    refine R_then ?_
                    refine R_loop ?_
                    refine R_block ?_
                    refine R_block ?_
                    refine R_then ?_
                    refine R_loop ?_
                    refine R_block ?_
                    refine R_then ?_
                    -- ret 6: .bool false
                    refine Q_ret (vs := [.bool false]) ⟨rfl, trivial⟩ (L' := []) [] trivial (by simp) (by decide) (⟨false, rfl, rfl, rfl, ?_⟩)
                    · exact (eqL_at (i := i) (fun e => by rw [e] at hx_71; first | exact hx_71 rfl | exact hx_71 ⟨rfl, rfl⟩)).symm
                  · -- !(decide ((((a.getD (i).toNat default).getD (j).toNat default).coefs) = (((b.getD (i).toNat default).getD (j).toNat default).coefs))) = false
                    have hn_72 : (decide ((((a.getD (i).toNat default).getD (j).toNat default).coefs) = (((b.getD (i).toNat default).getD (j).toNat default).coefs))) = true := by simpa using hb_69
                    have hx_73 := of_decide_eq_true hn_72
                    refine C_skip ?_
                    refine N_block ?_
                    refine N_then ?_
                    refine C_region rfl ?_
                    refine T_pv rfl (pv_move rfl) ?_
                    have hr_74 : InR .i64 (j + 1) := inR_i64 (by omega) (by omega)
                    refine T_pv rfl (pv_add rfl rfl hr_74) ?_
                    refine T_pv rfl (pv_assign rfl) ?_
                    refine T_nil ?_
                    refine N_next (j + 1) ⟨by omega, by omega, eqL_next (by omega) (by omega) (by omega) s2 (by rw [GFilter.eq_iff]; exact ⟨by simpa using hx_54, by simpa using hx_57, by simpa using hx_60, by simpa using hx_63, by simpa using hx_73⟩)⟩ (by first | omega | (dsimp only; omega)) rfl trivial ⟨rfl, rfl, rfl, rfl, rfl, rfl, rfl, rfl, rfl, rfl, rfl, rfl, rfl, rfl, rfl, rfl, rfl, rfl, rfl, rfl, rfl, rfl, rfl, rfl, trivial⟩
        · -- decide (j < ((a.getD (i).toNat default).length : Int)) = false
          have hx_75 := of_decide_eq_false hb_26
          refine C_exit ?_
          refine X_then ?_
          refine X_loop ?_
          refine X_block ?_
          refine N_block ?_
          refine N_then ?_
          refine C_region rfl ?_
          refine T_pv rfl (pv_move rfl) ?_
          have hr_76 : InR .i64 (i + 1) := inR_i64 (by omega) (by omega)
          refine T_pv rfl (pv_add rfl rfl hr_76) ?_
          refine T_pv rfl (pv_assign rfl) ?_
          refine T_nil ?_
          refine N_next (i + 1) ⟨by omega, by omega, eqL_next (by omega) (by omega) (by omega) q2 (of_decide_eq_true (eqL_all (i := j) (by omega) (by omega) s2).symm)⟩ (by first | omega | (dsimp only; omega)) rfl trivial ⟨rfl, rfl, rfl, rfl, rfl, rfl, rfl, rfl, trivial⟩
    · -- decide (i < (a.length : Int)) = false
      have hx_77 := of_decide_eq_false hb_5
      refine C_exit ?_
      refine X_then ?_
      refine X_loop ?_
      refine X_block ?_
      refine N_then ?_
      refine C_seq ?_
      refine C_region rfl ?_
      refine T_pv rfl (pv_assign rfl) ?_
      refine T_nil ?_
      refine N_then ?_
      refine C_ret0 ?_
      -- ret 7: .bool true
      refine Q_ret (vs := [.bool true]) ⟨rfl, trivial⟩ (L' := []) [] trivial (by simp) (by decide) (⟨true, rfl, rfl, rfl, ?_⟩)
      · exact (eqL_all (by omega) (by omega) q2).symm

set_option maxRecDepth 100000 in
theorem f_r18_Same (S : Im) (a : GChan) (ha0 : InR .i64 a.gain) (ha1 : InR .u8 a.info.seq) (ha2 : InR .u8 a.info.shape) (ha3 : InR .i64 a.info.max) (Aa4 : Option Addr) (ca4 : Nat) (ha4 : RdA (kInt .i64) S Aa4 ca4 a.info.groups) (Aa5 : Option Addr) (ca5 : Nat) (ha5 : RdA (kSl kGSection) S Aa5 ca5 a.sections) (Aa6 : Option Addr) (ca6 : Nat) (ha6 : RdA (kSl (kInt .i64)) S Aa6 ca6 a.steps) (Aa7 : Option Addr) (ca7 : Nat) (ha7 : RdA (kSl kGFilter) S Aa7 ca7 a.tns) (Aa8 : Option Addr) (ca8 : Nat) (ha8 : RdA (kInt .i64) S Aa8 ca8 a.lines) (b : GChan) (hb0 : InR .i64 b.gain) (hb1 : InR .u8 b.info.seq) (hb2 : InR .u8 b.info.shape) (hb3 : InR .i64 b.info.max) (Ab4 : Option Addr) (cb4 : Nat) (hb4 : RdA (kInt .i64) S Ab4 cb4 b.info.groups) (Ab5 : Option Addr) (cb5 : Nat) (hb5 : RdA (kSl kGSection) S Ab5 cb5 b.sections) (Ab6 : Option Addr) (cb6 : Nat) (hb6 : RdA (kSl (kInt .i64)) S Ab6 cb6 b.steps) (Ab7 : Option Addr) (cb7 : Nat) (hb7 : RdA (kSl kGFilter) S Ab7 cb7 b.tns) (Ab8 : Option Addr) (cb8 : Nat) (hb8 : RdA (kInt .i64) S Ab8 cb8 b.lines) : Fn Try.prog 20 [.agg #[.int .i64 a.gain, .int .u8 a.info.seq, .int .u8 a.info.shape, .int .i64 a.info.max, .slice Aa4 a.info.groups.length ca4, .slice Aa5 a.sections.length ca5, .slice Aa6 a.steps.length ca6, .slice Aa7 a.tns.length ca7, .slice Aa8 a.lines.length ca8], .agg #[.int .i64 b.gain, .int .u8 b.info.seq, .int .u8 b.info.shape, .int .i64 b.info.max, .slice Ab4 b.info.groups.length cb4, .slice Ab5 b.sections.length cb5, .slice Ab6 b.steps.length cb6, .slice Ab7 b.tns.length cb7, .slice Ab8 b.lines.length cb8]] S [] fun v S' L' => ∃ (r0 : Bool), v = .bool r0 ∧ S = S' ∧ L' = [] ∧ (decide (a = b)) = r0 := by
  have hb_a0 := InR.i64 ha0
  have hb_a1 := InR.u8 ha1
  have hb_a2 := InR.u8 ha2
  have hb_a3 := InR.i64 ha3
  have hb_a4 := ha4.bd
  have hb_a5 := ha5.bd
  have hb_a6 := ha6.bd
  have hb_a7 := ha7.bd
  have hb_a8 := ha8.bd
  have hb_b0 := InR.i64 hb0
  have hb_b1 := InR.u8 hb1
  have hb_b2 := InR.u8 hb2
  have hb_b3 := InR.i64 hb3
  have hb_b4 := hb4.bd
  have hb_b5 := hb5.bd
  have hb_b6 := hb6.bd
  have hb_b7 := hb7.bd
  have hb_b8 := hb8.bd
  refine Fn_intro 45 Try.func20 rfl rfl rfl fun w0 => ?_
  refine C_seq ?_
  refine C_region rfl ?_
  refine T_cons (op_box (cs := [.int .i64 a.gain, .int .u8 a.info.seq, .int .u8 a.info.shape, .int .i64 a.info.max, .slice Aa4 a.info.groups.length ca4, .slice Aa5 a.sections.length ca5, .slice Aa6 a.steps.length ca6, .slice Aa7 a.tns.length ca7, .slice Aa8 a.lines.length ca8]) (lt_of rfl) 101 rfl rfl fun g_1 => ?_)
  refine T_cons (op_box (cs := [.int .i64 b.gain, .int .u8 b.info.seq, .int .u8 b.info.shape, .int .i64 b.info.max, .slice Ab4 b.info.groups.length cb4, .slice Ab5 b.sections.length cb5, .slice Ab6 b.steps.length cb6, .slice Ab7 b.tns.length cb7, .slice Ab8 b.lines.length cb8]) (lt_of rfl) 102 rfl rfl fun g_2 => ?_)
  refine T_pv rfl (pv_assign rfl) ?_
  refine T_nil ?_
  refine N_then ?_
  refine C_seq ?_
  refine C_region rfl ?_
  refine T_pv rfl (pv_fieldAddr rfl fl_37_0) ?_
  refine T_pv rfl (pv_load rfl ag3 (Cell.blk 101 rfl rfl)) ?_
  refine T_pv rfl (pv_fieldAddr rfl fl_37_0) ?_
  refine T_pv rfl (pv_load rfl ag3 (Cell.blk 102 rfl rfl)) ?_
  refine T_pv rfl (pv_eqi rfl rfl) ?_
  refine T_pv rfl (pv_move rfl) ?_
  refine T_gs (dj := 10) rfl (fun hb_3 => ?_) (fun hb_3 => ?_)
  · -- decide (a.gain = b.gain) = true
    have hx_4 := of_decide_eq_true hb_3
    refine T_gy rfl rfl hb_3 rfl (pv_fieldAddr rfl fl_37_1) ?_
    refine T_gy rfl rfl hb_3 rfl (pv_load_agg (cs := [.int .u8 a.info.seq, .int .u8 a.info.shape, .int .i64 a.info.max, .slice Aa4 a.info.groups.length ca4]) rfl ag32 sz32 rfl ⟨Cell.blk 101 rfl rfl, Cell.blk 101 rfl rfl, Cell.blk 101 rfl rfl, Cell.blk 101 rfl rfl, trivial⟩) ?_
    refine T_gy rfl rfl hb_3 rfl (pv_fieldAddr rfl fl_37_1) ?_
    refine T_gy rfl rfl hb_3 rfl (pv_load_agg (cs := [.int .u8 b.info.seq, .int .u8 b.info.shape, .int .i64 b.info.max, .slice Ab4 b.info.groups.length cb4]) rfl ag32 sz32 rfl ⟨Cell.blk 102 rfl rfl, Cell.blk 102 rfl rfl, Cell.blk 102 rfl rfl, Cell.blk 102 rfl rfl, trivial⟩) ?_
    refine T_gyo rfl rfl hb_3 (op_call (fun _ h => by cases h; exact lt_of rfl) rfl rfl rfl en36 (f_r10_Same _ a.info ha1 ha2 ha3 _ _ ha4 b.info hb1 hb2 hb3 _ _ hb4) [] trivial (by simp) (by decide) ?_)
    rintro v_8 S_6 L_9 ⟨r_5, rfl, rfl, rfl, rfl⟩ hle_7
    refine ⟨rfl, ?_⟩
    refine T_pv rfl (pv_pick_t rfl hb_3 rfl) ?_
    refine T_pv rfl (pv_move rfl) ?_
    refine T_gs (dj := 17) rfl (fun hb_10 => ?_) (fun hb_10 => ?_)
    · -- decide (a.info = b.info) = true
      have hx_11 := of_decide_eq_true hb_10
      refine T_gy rfl rfl hb_10 rfl (pv_fieldAddr rfl fl_37_5) ?_
      refine T_gy rfl rfl hb_10 rfl (pv_load rfl ag30 (Cell.blk 101 rfl rfl)) ?_
      refine T_gy rfl rfl hb_10 rfl (pv_fieldAddr rfl fl_37_5) ?_
      refine T_gy rfl rfl hb_10 rfl (pv_load rfl ag30 (Cell.blk 102 rfl rfl)) ?_
      refine T_gyo rfl rfl hb_10 (op_call (fun _ h => by cases h; exact lt_of rfl) rfl rfl rfl en37 (f_Ints _ _ _ a.lines ha8 _ _ b.lines hb8) [] trivial (by simp) (by decide) ?_)
      rintro v_15 S_13 L_16 ⟨r_12, rfl, rfl, rfl, rfl⟩ hle_14
      refine ⟨rfl, ?_⟩
      refine T_pv rfl (pv_pick_t rfl hb_10 rfl) ?_
      refine T_pv rfl (pv_move rfl) ?_
      refine T_gs (dj := 24) rfl (fun hb_17 => ?_) (fun hb_17 => ?_)
      · -- decide (a.lines = b.lines) = true
        have hx_18 := of_decide_eq_true hb_17
        refine T_gy rfl rfl hb_17 rfl (pv_fieldAddr rfl fl_37_2) ?_
        refine T_gy rfl rfl hb_17 rfl (pv_load rfl ag33 (Cell.blk 101 rfl rfl)) ?_
        refine T_gy rfl rfl hb_17 rfl (pv_fieldAddr rfl fl_37_2) ?_
        refine T_gy rfl rfl hb_17 rfl (pv_load rfl ag33 (Cell.blk 102 rfl rfl)) ?_
        refine T_gyo rfl rfl hb_17 (op_call (fun _ h => by cases h; exact lt_of rfl) rfl rfl rfl en38 (f_r18_SameSections _ _ _ a.sections ha5 _ _ b.sections hb5) [] trivial (by simp) (by decide) ?_)
        rintro v_22 S_20 L_23 ⟨r_19, rfl, rfl, rfl, rfl⟩ hle_21
        refine ⟨rfl, ?_⟩
        refine T_pv rfl (pv_pick_t rfl hb_17 rfl) ?_
        refine T_pv rfl (pv_move rfl) ?_
        refine T_gs (dj := 31) rfl (fun hb_24 => ?_) (fun hb_24 => ?_)
        · -- decide (a.sections = b.sections) = true
          have hx_25 := of_decide_eq_true hb_24
          refine T_gy rfl rfl hb_24 rfl (pv_fieldAddr rfl fl_37_3) ?_
          refine T_gy rfl rfl hb_24 rfl (pv_load rfl ag34 (Cell.blk 101 rfl rfl)) ?_
          refine T_gy rfl rfl hb_24 rfl (pv_fieldAddr rfl fl_37_3) ?_
          refine T_gy rfl rfl hb_24 rfl (pv_load rfl ag34 (Cell.blk 102 rfl rfl)) ?_
          refine T_gyo rfl rfl hb_24 (op_call (fun _ h => by cases h; exact lt_of rfl) rfl rfl rfl en39 (f_r18_SameSteps _ _ _ a.steps ha6 _ _ b.steps hb6) [] trivial (by simp) (by decide) ?_)
          rintro v_29 S_27 L_30 ⟨r_26, rfl, rfl, rfl, rfl⟩ hle_28
          refine ⟨rfl, ?_⟩
          refine T_pv rfl (pv_pick_t rfl hb_24 rfl) ?_
          refine T_pv rfl (pv_move rfl) ?_
          refine T_gs (dj := 38) rfl (fun hb_31 => ?_) (fun hb_31 => ?_)
          · -- decide (a.steps = b.steps) = true
            have hx_32 := of_decide_eq_true hb_31
            refine T_gy rfl rfl hb_31 rfl (pv_fieldAddr rfl fl_37_4) ?_
            refine T_gy rfl rfl hb_31 rfl (pv_load rfl ag35 (Cell.blk 101 rfl rfl)) ?_
            refine T_gy rfl rfl hb_31 rfl (pv_fieldAddr rfl fl_37_4) ?_
            refine T_gy rfl rfl hb_31 rfl (pv_load rfl ag35 (Cell.blk 102 rfl rfl)) ?_
            refine T_gyo rfl rfl hb_31 (op_call (fun _ h => by cases h; exact lt_of rfl) rfl rfl rfl en40 (f_r18_SameTns _ _ _ a.tns ha7 _ _ b.tns hb7) [] trivial (by simp) (by decide) ?_)
            rintro v_36 S_34 L_37 ⟨r_33, rfl, rfl, rfl, rfl⟩ hle_35
            refine ⟨rfl, ?_⟩
            refine T_pv rfl (pv_pick_t rfl hb_31 rfl) ?_
            refine T_pv rfl (pv_assign rfl) ?_
            refine T_nil ?_
            refine N_then ?_
            refine C_ret0 ?_
            -- ret 0: .bool (decide (a.tns = b.tns))
            refine Q_ret (vs := [.bool (decide (a.tns = b.tns))]) ⟨rfl, trivial⟩ (L' := []) [] trivial (by simp) (by decide) (⟨decide (a.tns = b.tns), rfl, rfl, rfl, ?_⟩)
            · simp [GChan.eq_iff, hx_4, hx_11, hx_18, hx_25, hx_32]
          · -- decide (a.steps = b.steps) = false
            have hx_38 := of_decide_eq_false hb_31
            refine T_gn rfl rfl hb_31 rfl ?_
            refine T_gn rfl rfl hb_31 rfl ?_
            refine T_gn rfl rfl hb_31 rfl ?_
            refine T_gn rfl rfl hb_31 rfl ?_
            refine T_gn rfl rfl hb_31 rfl ?_
            refine T_pv rfl (pv_pick_f rfl hb_31 rfl) ?_
            refine T_pv rfl (pv_assign rfl) ?_
            refine T_nil ?_
            refine N_then ?_
            refine C_ret0 ?_
            -- ret 1: .bool false
            refine Q_ret (vs := [.bool false]) ⟨rfl, trivial⟩ (L' := []) [] trivial (by simp) (by decide) (⟨false, rfl, rfl, rfl, ?_⟩)
            · simp [GChan.eq_iff, hx_4, hx_11, hx_18, hx_25, hx_38]
        · -- decide (a.sections = b.sections) = false
          have hx_39 := of_decide_eq_false hb_24
          refine T_gn rfl rfl hb_24 rfl ?_
          refine T_gn rfl rfl hb_24 rfl ?_
          refine T_gn rfl rfl hb_24 rfl ?_
          refine T_gn rfl rfl hb_24 rfl ?_
          refine T_gn rfl rfl hb_24 rfl ?_
          refine T_pv rfl (pv_pick_f rfl hb_24 rfl) ?_
          refine T_pv rfl (pv_move rfl) ?_
          refine T_gn rfl rfl rfl rfl ?_
          refine T_gn rfl rfl rfl rfl ?_
          refine T_gn rfl rfl rfl rfl ?_
          refine T_gn rfl rfl rfl rfl ?_
          refine T_gn rfl rfl rfl rfl ?_
          refine T_pv rfl (pv_pick_f rfl rfl rfl) ?_
          refine T_pv rfl (pv_assign rfl) ?_
          refine T_nil ?_
          refine N_then ?_
          refine C_ret0 ?_
          -- ret 2: .bool false
          refine Q_ret (vs := [.bool false]) ⟨rfl, trivial⟩ (L' := []) [] trivial (by simp) (by decide) (⟨false, rfl, rfl, rfl, ?_⟩)
          · simp [GChan.eq_iff, hx_4, hx_11, hx_18, hx_39]
      · -- decide (a.lines = b.lines) = false
        have hx_40 := of_decide_eq_false hb_17
        refine T_gn rfl rfl hb_17 rfl ?_
        refine T_gn rfl rfl hb_17 rfl ?_
        refine T_gn rfl rfl hb_17 rfl ?_
        refine T_gn rfl rfl hb_17 rfl ?_
        refine T_gn rfl rfl hb_17 rfl ?_
        refine T_pv rfl (pv_pick_f rfl hb_17 rfl) ?_
        refine T_pv rfl (pv_move rfl) ?_
        refine T_gn rfl rfl rfl rfl ?_
        refine T_gn rfl rfl rfl rfl ?_
        refine T_gn rfl rfl rfl rfl ?_
        refine T_gn rfl rfl rfl rfl ?_
        refine T_gn rfl rfl rfl rfl ?_
        refine T_pv rfl (pv_pick_f rfl rfl rfl) ?_
        refine T_pv rfl (pv_move rfl) ?_
        refine T_gn rfl rfl rfl rfl ?_
        refine T_gn rfl rfl rfl rfl ?_
        refine T_gn rfl rfl rfl rfl ?_
        refine T_gn rfl rfl rfl rfl ?_
        refine T_gn rfl rfl rfl rfl ?_
        refine T_pv rfl (pv_pick_f rfl rfl rfl) ?_
        refine T_pv rfl (pv_assign rfl) ?_
        refine T_nil ?_
        refine N_then ?_
        refine C_ret0 ?_
        -- ret 3: .bool false
        refine Q_ret (vs := [.bool false]) ⟨rfl, trivial⟩ (L' := []) [] trivial (by simp) (by decide) (⟨false, rfl, rfl, rfl, ?_⟩)
        · simp [GChan.eq_iff, hx_4, hx_11, hx_40]
    · -- decide (a.info = b.info) = false
      have hx_41 := of_decide_eq_false hb_10
      refine T_gn rfl rfl hb_10 rfl ?_
      refine T_gn rfl rfl hb_10 rfl ?_
      refine T_gn rfl rfl hb_10 rfl ?_
      refine T_gn rfl rfl hb_10 rfl ?_
      refine T_gn rfl rfl hb_10 rfl ?_
      refine T_pv rfl (pv_pick_f rfl hb_10 rfl) ?_
      refine T_pv rfl (pv_move rfl) ?_
      refine T_gn rfl rfl rfl rfl ?_
      refine T_gn rfl rfl rfl rfl ?_
      refine T_gn rfl rfl rfl rfl ?_
      refine T_gn rfl rfl rfl rfl ?_
      refine T_gn rfl rfl rfl rfl ?_
      refine T_pv rfl (pv_pick_f rfl rfl rfl) ?_
      refine T_pv rfl (pv_move rfl) ?_
      refine T_gn rfl rfl rfl rfl ?_
      refine T_gn rfl rfl rfl rfl ?_
      refine T_gn rfl rfl rfl rfl ?_
      refine T_gn rfl rfl rfl rfl ?_
      refine T_gn rfl rfl rfl rfl ?_
      refine T_pv rfl (pv_pick_f rfl rfl rfl) ?_
      refine T_pv rfl (pv_move rfl) ?_
      refine T_gn rfl rfl rfl rfl ?_
      refine T_gn rfl rfl rfl rfl ?_
      refine T_gn rfl rfl rfl rfl ?_
      refine T_gn rfl rfl rfl rfl ?_
      refine T_gn rfl rfl rfl rfl ?_
      refine T_pv rfl (pv_pick_f rfl rfl rfl) ?_
      refine T_pv rfl (pv_assign rfl) ?_
      refine T_nil ?_
      refine N_then ?_
      refine C_ret0 ?_
      -- ret 4: .bool false
      refine Q_ret (vs := [.bool false]) ⟨rfl, trivial⟩ (L' := []) [] trivial (by simp) (by decide) (⟨false, rfl, rfl, rfl, ?_⟩)
      · simp [GChan.eq_iff, hx_4, hx_41]
  · -- decide (a.gain = b.gain) = false
    have hx_42 := of_decide_eq_false hb_3
    refine T_gn rfl rfl hb_3 rfl ?_
    refine T_gn rfl rfl hb_3 rfl ?_
    refine T_gn rfl rfl hb_3 rfl ?_
    refine T_gn rfl rfl hb_3 rfl ?_
    refine T_gn rfl rfl hb_3 rfl ?_
    refine T_pv rfl (pv_pick_f rfl hb_3 rfl) ?_
    refine T_pv rfl (pv_move rfl) ?_
    refine T_gn rfl rfl rfl rfl ?_
    refine T_gn rfl rfl rfl rfl ?_
    refine T_gn rfl rfl rfl rfl ?_
    refine T_gn rfl rfl rfl rfl ?_
    refine T_gn rfl rfl rfl rfl ?_
    refine T_pv rfl (pv_pick_f rfl rfl rfl) ?_
    refine T_pv rfl (pv_move rfl) ?_
    refine T_gn rfl rfl rfl rfl ?_
    refine T_gn rfl rfl rfl rfl ?_
    refine T_gn rfl rfl rfl rfl ?_
    refine T_gn rfl rfl rfl rfl ?_
    refine T_gn rfl rfl rfl rfl ?_
    refine T_pv rfl (pv_pick_f rfl rfl rfl) ?_
    refine T_pv rfl (pv_move rfl) ?_
    refine T_gn rfl rfl rfl rfl ?_
    refine T_gn rfl rfl rfl rfl ?_
    refine T_gn rfl rfl rfl rfl ?_
    refine T_gn rfl rfl rfl rfl ?_
    refine T_gn rfl rfl rfl rfl ?_
    refine T_pv rfl (pv_pick_f rfl rfl rfl) ?_
    refine T_pv rfl (pv_move rfl) ?_
    refine T_gn rfl rfl rfl rfl ?_
    refine T_gn rfl rfl rfl rfl ?_
    refine T_gn rfl rfl rfl rfl ?_
    refine T_gn rfl rfl rfl rfl ?_
    refine T_gn rfl rfl rfl rfl ?_
    refine T_pv rfl (pv_pick_f rfl rfl rfl) ?_
    refine T_pv rfl (pv_assign rfl) ?_
    refine T_nil ?_
    refine N_then ?_
    refine C_ret0 ?_
    -- ret 5: .bool false
    refine Q_ret (vs := [.bool false]) ⟨rfl, trivial⟩ (L' := []) [] trivial (by simp) (by decide) (⟨false, rfl, rfl, rfl, ?_⟩)
    · simp [GChan.eq_iff, hx_42]

set_option maxRecDepth 100000 in
theorem f_r23_Same (S : Im) (a : GFrame) (Aa0 : Option Addr) (ca0 : Nat) (ha0 : RdA kGChan S Aa0 ca0 a.chans) (ha2 : InR .i64 a.mask) (Aa3 : Option Addr) (ca3 : Nat) (ha3 : RdA (kSl kBool) S Aa3 ca3 a.bands) (Aa4 : Option Addr) (ca4 : Nat) (ha4 : RdA (kInt .u8) S Aa4 ca4 a.fill) (b : GFrame) (Ab0 : Option Addr) (cb0 : Nat) (hb0 : RdA kGChan S Ab0 cb0 b.chans) (hb2 : InR .i64 b.mask) (Ab3 : Option Addr) (cb3 : Nat) (hb3 : RdA (kSl kBool) S Ab3 cb3 b.bands) (Ab4 : Option Addr) (cb4 : Nat) (hb4 : RdA (kInt .u8) S Ab4 cb4 b.fill) : Fn Try.prog 7 [.agg #[.slice Aa0 a.chans.length ca0, .bool a.common, .int .i64 a.mask, .slice Aa3 a.bands.length ca3, .slice Aa4 a.fill.length ca4], .agg #[.slice Ab0 b.chans.length cb0, .bool b.common, .int .i64 b.mask, .slice Ab3 b.bands.length cb3, .slice Ab4 b.fill.length cb4]] S [] fun v S' L' => ∃ (r0 : Bool), v = .bool r0 ∧ S = S' ∧ L' = [] ∧ (decide (a = b)) = r0 := by
  have hb_a0 := ha0.bd
  have hb_a2 := InR.i64 ha2
  have hb_a3 := ha3.bd
  have hb_a4 := ha4.bd
  have hb_b0 := hb0.bd
  have hb_b2 := InR.i64 hb2
  have hb_b3 := hb3.bd
  have hb_b4 := hb4.bd
  refine Fn_intro 113 Try.func7 rfl rfl rfl fun w0 => ?_
  refine C_seq ?_
  refine C_region rfl ?_
  refine T_cons (op_box (cs := [.slice Aa0 a.chans.length ca0, .bool a.common, .int .i64 a.mask, .slice Aa3 a.bands.length ca3, .slice Aa4 a.fill.length ca4]) (lt_of rfl) 101 rfl rfl fun g_1 => ?_)
  refine T_cons (op_box (cs := [.slice Ab0 b.chans.length cb0, .bool b.common, .int .i64 b.mask, .slice Ab3 b.bands.length cb3, .slice Ab4 b.fill.length cb4]) (lt_of rfl) 102 rfl rfl fun g_2 => ?_)
  refine T_pv rfl (pv_assign rfl) ?_
  refine T_nil ?_
  refine N_then ?_
  refine C_seq ?_
  refine C_seq ?_
  refine C_region rfl ?_
  refine T_pv rfl (pv_fieldAddr rfl fl_26_1) ?_
  refine T_pv rfl (pv_load rfl ag4 (Cell.blk 101 rfl rfl)) ?_
  refine T_pv rfl (pv_fieldAddr rfl fl_26_1) ?_
  refine T_pv rfl (pv_load rfl ag4 (Cell.blk 102 rfl rfl)) ?_
  refine T_pv rfl (pv_neqbd rfl rfl un4) ?_
  refine T_pv rfl (pv_move rfl) ?_
  refine T_gs (dj := 13) rfl (fun hb_3 => ?_) (fun hb_3 => ?_)
  · -- decide (a.common ≠ b.common) = true
    have hx_4 := of_decide_eq_true hb_3
    refine T_gn rfl rfl hb_3 rfl ?_
    refine T_gn rfl rfl hb_3 rfl ?_
    refine T_gn rfl rfl hb_3 rfl ?_
    refine T_gn rfl rfl hb_3 rfl ?_
    refine T_gn rfl rfl hb_3 rfl ?_
    refine T_pv rfl (pv_pick_t rfl hb_3 rfl) ?_
    refine T_pv rfl (pv_move rfl) ?_
    refine T_gn rfl rfl rfl rfl ?_
    refine T_gn rfl rfl rfl rfl ?_
    refine T_gn rfl rfl rfl rfl ?_
    refine T_gn rfl rfl rfl rfl ?_
    refine T_gn rfl rfl rfl rfl ?_
    refine T_gn rfl rfl rfl rfl ?_
    refine T_gn rfl rfl rfl rfl ?_
    refine T_pv rfl (pv_pick_t rfl rfl rfl) ?_
    refine T_pv rfl (pv_move rfl) ?_
    refine T_gn rfl rfl rfl rfl ?_
    refine T_gn rfl rfl rfl rfl ?_
    refine T_gn rfl rfl rfl rfl ?_
    refine T_gn rfl rfl rfl rfl ?_
    refine T_gn rfl rfl rfl rfl ?_
    refine T_gn rfl rfl rfl rfl ?_
    refine T_gn rfl rfl rfl rfl ?_
    refine T_pv rfl (pv_pick_t rfl rfl rfl) ?_
    refine T_pv rfl (pv_move rfl) ?_
    refine T_gn rfl rfl rfl rfl ?_
    refine T_gn rfl rfl rfl rfl ?_
    refine T_gn rfl rfl rfl rfl ?_
    refine T_gn rfl rfl rfl rfl ?_
    refine T_gn rfl rfl rfl rfl ?_
    refine T_gn rfl rfl rfl rfl ?_
    refine T_gn rfl rfl rfl rfl ?_
    refine T_pv rfl (pv_pick_t rfl rfl rfl) ?_
    refine T_nil ?_
    refine N_then ?_
    refine C_condt rfl rfl ?_
    refine C_seq ?_
    refine C_region rfl ?_
    refine T_pv rfl (pv_assign rfl) ?_
    refine T_nil ?_
    refine N_then ?_
    refine C_ret0 ?_
    refine R_then ?_
    -- ret 0: .bool false
    refine Q_ret (vs := [.bool false]) ⟨rfl, trivial⟩ (L' := []) [] trivial (by simp) (by decide) (⟨false, rfl, rfl, rfl, ?_⟩)
    · rw [decide_eq_false_iff_not]
      intro e
      subst e
      first | exact hx_4 rfl | exact absurd rfl (by assumption) | (simp at hx_4)
  · -- decide (a.common ≠ b.common) = false
    have hx_5 := of_decide_eq_false hb_3
    refine T_gy rfl rfl hb_3 rfl (pv_fieldAddr rfl fl_26_2) ?_
    refine T_gy rfl rfl hb_3 rfl (pv_load rfl ag3 (Cell.blk 101 rfl rfl)) ?_
    refine T_gy rfl rfl hb_3 rfl (pv_fieldAddr rfl fl_26_2) ?_
    refine T_gy rfl rfl hb_3 rfl (pv_load rfl ag3 (Cell.blk 102 rfl rfl)) ?_
    refine T_gy rfl rfl hb_3 rfl (pv_nei rfl rfl) ?_
    refine T_pv rfl (pv_pick_f rfl hb_3 rfl) ?_
    refine T_pv rfl (pv_move rfl) ?_
    refine T_gs (dj := 20) rfl (fun hb_6 => ?_) (fun hb_6 => ?_)
    · -- decide (a.mask ≠ b.mask) = true
      have hx_7 := of_decide_eq_true hb_6
      refine T_gn rfl rfl hb_6 rfl ?_
      refine T_gn rfl rfl hb_6 rfl ?_
      refine T_gn rfl rfl hb_6 rfl ?_
      refine T_gn rfl rfl hb_6 rfl ?_
      refine T_gn rfl rfl hb_6 rfl ?_
      refine T_gn rfl rfl hb_6 rfl ?_
      refine T_gn rfl rfl hb_6 rfl ?_
      refine T_pv rfl (pv_pick_t rfl hb_6 rfl) ?_
      refine T_pv rfl (pv_move rfl) ?_
      refine T_gn rfl rfl rfl rfl ?_
      refine T_gn rfl rfl rfl rfl ?_
      refine T_gn rfl rfl rfl rfl ?_
      refine T_gn rfl rfl rfl rfl ?_
      refine T_gn rfl rfl rfl rfl ?_
      refine T_gn rfl rfl rfl rfl ?_
      refine T_gn rfl rfl rfl rfl ?_
      refine T_pv rfl (pv_pick_t rfl rfl rfl) ?_
      refine T_pv rfl (pv_move rfl) ?_
      refine T_gn rfl rfl rfl rfl ?_
      refine T_gn rfl rfl rfl rfl ?_
      refine T_gn rfl rfl rfl rfl ?_
      refine T_gn rfl rfl rfl rfl ?_
      refine T_gn rfl rfl rfl rfl ?_
      refine T_gn rfl rfl rfl rfl ?_
      refine T_gn rfl rfl rfl rfl ?_
      refine T_pv rfl (pv_pick_t rfl rfl rfl) ?_
      refine T_nil ?_
      refine N_then ?_
      refine C_condt rfl rfl ?_
      refine C_seq ?_
      refine C_region rfl ?_
      refine T_pv rfl (pv_assign rfl) ?_
      refine T_nil ?_
      refine N_then ?_
      refine C_ret0 ?_
      refine R_then ?_
      -- ret 1: .bool false
      refine Q_ret (vs := [.bool false]) ⟨rfl, trivial⟩ (L' := []) [] trivial (by simp) (by decide) (⟨false, rfl, rfl, rfl, ?_⟩)
      · rw [decide_eq_false_iff_not]
        intro e
        subst e
        first | exact hx_7 rfl | exact absurd rfl (by assumption) | (simp at hx_7)
    · -- decide (a.mask ≠ b.mask) = false
      have hx_8 := of_decide_eq_false hb_6
      refine T_gy rfl rfl hb_6 rfl (pv_fieldAddr rfl fl_26_4) ?_
      refine T_gy rfl rfl hb_6 rfl (pv_load rfl ag24 (Cell.blk 101 rfl rfl)) ?_
      refine T_gy rfl rfl hb_6 rfl (pv_str ha4 rfl el24 un5 un9) ?_
      refine T_gy rfl rfl hb_6 rfl (pv_fieldAddr rfl fl_26_4) ?_
      refine T_gy rfl rfl hb_6 rfl (pv_load rfl ag24 (Cell.blk 102 rfl rfl)) ?_
      refine T_gy rfl rfl hb_6 rfl (pv_str hb4 rfl el24 un5 un9) ?_
      refine T_gy rfl rfl hb_6 rfl (pv_neqstr rfl rfl (RdA.inR ha4) (RdA.inR hb4)) ?_
      refine T_pv rfl (pv_pick_f rfl hb_6 rfl) ?_
      refine T_pv rfl (pv_move rfl) ?_
      refine T_gs (dj := 29) rfl (fun hb_9 => ?_) (fun hb_9 => ?_)
      · -- decide (a.fill ≠ b.fill) = true
        have hx_10 := of_decide_eq_true hb_9
        refine T_gn rfl rfl hb_9 rfl ?_
        refine T_gn rfl rfl hb_9 rfl ?_
        refine T_gn rfl rfl hb_9 rfl ?_
        refine T_gn rfl rfl hb_9 rfl ?_
        refine T_gn rfl rfl hb_9 rfl ?_
        refine T_gn rfl rfl hb_9 rfl ?_
        refine T_gn rfl rfl hb_9 rfl ?_
        refine T_pv rfl (pv_pick_t rfl hb_9 rfl) ?_
        refine T_pv rfl (pv_move rfl) ?_
        refine T_gn rfl rfl rfl rfl ?_
        refine T_gn rfl rfl rfl rfl ?_
        refine T_gn rfl rfl rfl rfl ?_
        refine T_gn rfl rfl rfl rfl ?_
        refine T_gn rfl rfl rfl rfl ?_
        refine T_gn rfl rfl rfl rfl ?_
        refine T_gn rfl rfl rfl rfl ?_
        refine T_pv rfl (pv_pick_t rfl rfl rfl) ?_
        refine T_nil ?_
        refine N_then ?_
        refine C_condt rfl rfl ?_
        refine C_seq ?_
        refine C_region rfl ?_
        refine T_pv rfl (pv_assign rfl) ?_
        refine T_nil ?_
        refine N_then ?_
        refine C_ret0 ?_
        refine R_then ?_
        -- ret 2: .bool false
        refine Q_ret (vs := [.bool false]) ⟨rfl, trivial⟩ (L' := []) [] trivial (by simp) (by decide) (⟨false, rfl, rfl, rfl, ?_⟩)
        · rw [decide_eq_false_iff_not]
          intro e
          subst e
          first | exact hx_10 rfl | exact absurd rfl (by assumption) | (simp at hx_10)
      · -- decide (a.fill ≠ b.fill) = false
        have hx_11 := of_decide_eq_false hb_9
        refine T_gy rfl rfl hb_9 rfl (pv_fieldAddr rfl fl_26_0) ?_
        refine T_gy rfl rfl hb_9 rfl (pv_load rfl ag22 (Cell.blk 101 rfl rfl)) ?_
        refine T_gy rfl rfl hb_9 rfl (pv_len rfl el22) ?_
        refine T_gy rfl rfl hb_9 rfl (pv_fieldAddr rfl fl_26_0) ?_
        refine T_gy rfl rfl hb_9 rfl (pv_load rfl ag22 (Cell.blk 102 rfl rfl)) ?_
        refine T_gy rfl rfl hb_9 rfl (pv_len rfl el22) ?_
        refine T_gy rfl rfl hb_9 rfl (pv_nei rfl rfl) ?_
        refine T_pv rfl (pv_pick_f rfl hb_9 rfl) ?_
        refine T_pv rfl (pv_move rfl) ?_
        refine T_gs (dj := 38) rfl (fun hb_12 => ?_) (fun hb_12 => ?_)
        · -- decide ((a.chans.length : Int) ≠ (b.chans.length : Int)) = true
          have hx_13 := of_decide_eq_true hb_12
          refine T_gn rfl rfl hb_12 rfl ?_
          refine T_gn rfl rfl hb_12 rfl ?_
          refine T_gn rfl rfl hb_12 rfl ?_
          refine T_gn rfl rfl hb_12 rfl ?_
          refine T_gn rfl rfl hb_12 rfl ?_
          refine T_gn rfl rfl hb_12 rfl ?_
          refine T_gn rfl rfl hb_12 rfl ?_
          refine T_pv rfl (pv_pick_t rfl hb_12 rfl) ?_
          refine T_nil ?_
          refine N_then ?_
          refine C_condt rfl rfl ?_
          refine C_seq ?_
          refine C_region rfl ?_
          refine T_pv rfl (pv_assign rfl) ?_
          refine T_nil ?_
          refine N_then ?_
          refine C_ret0 ?_
          refine R_then ?_
          -- ret 3: .bool false
          refine Q_ret (vs := [.bool false]) ⟨rfl, trivial⟩ (L' := []) [] trivial (by simp) (by decide) (⟨false, rfl, rfl, rfl, ?_⟩)
          · rw [decide_eq_false_iff_not]
            intro e
            subst e
            first | exact hx_13 rfl | exact absurd rfl (by assumption) | (simp at hx_13)
        · -- decide ((a.chans.length : Int) ≠ (b.chans.length : Int)) = false
          have hx_14 := of_decide_eq_false hb_12
          refine T_gy rfl rfl hb_12 rfl (pv_fieldAddr rfl fl_26_3) ?_
          refine T_gy rfl rfl hb_12 rfl (pv_load rfl ag23 (Cell.blk 101 rfl rfl)) ?_
          refine T_gy rfl rfl hb_12 rfl (pv_len rfl el23) ?_
          refine T_gy rfl rfl hb_12 rfl (pv_fieldAddr rfl fl_26_3) ?_
          refine T_gy rfl rfl hb_12 rfl (pv_load rfl ag23 (Cell.blk 102 rfl rfl)) ?_
          refine T_gy rfl rfl hb_12 rfl (pv_len rfl el23) ?_
          refine T_gy rfl rfl hb_12 rfl (pv_nei rfl rfl) ?_
          refine T_pv rfl (pv_pick_f rfl hb_12 rfl) ?_
          refine T_nil ?_
          refine N_then ?_
          refine C_cond rfl (fun hb_15 => ?_) (fun hb_15 => ?_)
          · -- decide ((a.bands.length : Int) ≠ (b.bands.length : Int)) = true
            have hx_16 := of_decide_eq_true hb_15
            refine C_seq ?_
            refine C_region rfl ?_
            refine T_pv rfl (pv_assign rfl) ?_
            refine T_nil ?_
            refine N_then ?_
            refine C_ret0 ?_
            refine R_then ?_
            -- ret 4: .bool false
            refine Q_ret (vs := [.bool false]) ⟨rfl, trivial⟩ (L' := []) [] trivial (by simp) (by decide) (⟨false, rfl, rfl, rfl, ?_⟩)
            · rw [decide_eq_false_iff_not]
              intro e
              subst e
              first | exact hx_16 rfl | exact absurd rfl (by assumption) | (simp at hx_16)
          · -- decide ((a.bands.length : Int) ≠ (b.bands.length : Int)) = false
            have hx_17 := of_decide_eq_false hb_15
            refine C_skip ?_
            refine N_then ?_
            refine C_seq ?_
            refine C_seq ?_
            refine C_region rfl ?_
            refine T_pv rfl (pv_assign rfl) ?_
            refine T_nil ?_
            refine N_then ?_
            refine C_block ?_
            refine C_loop (fun (x : Int) => (S, [(101, .blk g_1 [.slice Aa0 a.chans.length ca0, .bool a.common, .int .i64 a.mask, .slice Aa3 a.bands.length ca3, .slice Aa4 a.fill.length ca4] 26), (102, .blk g_2 [.slice Ab0 b.chans.length cb0, .bool b.common, .int .i64 b.mask, .slice Ab3 b.bands.length cb3, .slice Ab4 b.fill.length cb4] 26)], [(0, .agg #[.slice Aa0 a.chans.length ca0, .bool a.common, .int .i64 a.mask, .slice Aa3 a.bands.length ca3, .slice Aa4 a.fill.length ca4]), (1, .agg #[.slice Ab0 b.chans.length cb0, .bool b.common, .int .i64 b.mask, .slice Ab3 b.bands.length cb3, .slice Ab4 b.fill.length cb4]), (2, .pointer (some ⟨g_1, 0, none⟩)), (3, .pointer (some ⟨g_2, 0, none⟩)), (8, .pointer (some ⟨g_1, 1, none⟩)), (9, .bool a.common), (10, .pointer (some ⟨g_2, 1, none⟩)), (11, .bool b.common), (12, .bool (decide (a.common ≠ b.common))), (13, .bool (decide (a.common ≠ b.common))), (14, .pointer (some ⟨g_1, 2, none⟩)), (15, .int .i64 a.mask), (16, .pointer (some ⟨g_2, 2, none⟩)), (17, .int .i64 b.mask), (18, .bool (decide (a.mask ≠ b.mask))), (19, .bool (decide (a.mask ≠ b.mask))), (20, .bool (decide (a.mask ≠ b.mask))), (21, .pointer (some ⟨g_1, 4, none⟩)), (22, .slice Aa4 a.fill.length ca4), (23, .string (strB a.fill)), (24, .pointer (some ⟨g_2, 4, none⟩)), (25, .slice Ab4 b.fill.length cb4), (26, .string (strB b.fill)), (27, .bool (decide (a.fill ≠ b.fill))), (28, .bool (decide (a.fill ≠ b.fill))), (29, .bool (decide (a.fill ≠ b.fill))), (30, .pointer (some ⟨g_1, 0, none⟩)), (31, .slice Aa0 a.chans.length ca0), (32, .int .i64 (a.chans.length : Int)), (33, .pointer (some ⟨g_2, 0, none⟩)), (34, .slice Ab0 b.chans.length cb0), (35, .int .i64 (b.chans.length : Int)), (36, .bool (decide ((a.chans.length : Int) ≠ (b.chans.length : Int)))), (37, .bool (decide ((a.chans.length : Int) ≠ (b.chans.length : Int)))), (38, .bool (decide ((a.chans.length : Int) ≠ (b.chans.length : Int)))), (39, .pointer (some ⟨g_1, 3, none⟩)), (40, .slice Aa3 a.bands.length ca3), (41, .int .i64 (a.bands.length : Int)), (42, .pointer (some ⟨g_2, 3, none⟩)), (43, .slice Ab3 b.bands.length cb3), (44, .int .i64 (b.bands.length : Int)), (45, .bool (decide ((a.bands.length : Int) ≠ (b.bands.length : Int)))), (46, .bool (decide ((a.bands.length : Int) ≠ (b.bands.length : Int)))), (5, .int .i64 x)])) (fun (x : Int) => 0 ≤ x ∧ x ≤ a.chans.length ∧ a.chans.take (x).toNat = b.chans.take (x).toNat) (fun (x : Int) => (a.chans.length - x).toNat) (0) ⟨by omega, by omega, by simp⟩ rfl ⟨rfl, rfl, trivial⟩ ⟨rfl, rfl, rfl, rfl, rfl, rfl, rfl, rfl, rfl, rfl, rfl, rfl, rfl, rfl, rfl, rfl, rfl, rfl, rfl, rfl, rfl, rfl, rfl, rfl, rfl, rfl, rfl, rfl, rfl, rfl, rfl, rfl, rfl, rfl, rfl, rfl, rfl, rfl, rfl, rfl, rfl, rfl, rfl, rfl, trivial⟩ ?_
            rintro i ⟨q0, q1, q2⟩
            dsimp only
            refine C_seq ?_
            refine C_seq ?_
            refine C_region rfl ?_
            refine T_pv rfl (pv_move rfl) ?_
            refine T_pv rfl (pv_fieldAddr rfl fl_26_0) ?_
            refine T_pv rfl (pv_load rfl ag22 (Cell.blk 101 rfl rfl)) ?_
            refine T_pv rfl (pv_len rfl el22) ?_
            refine T_pv rfl (pv_lss rfl rfl) ?_
            refine T_nil ?_
            refine N_then ?_
            refine C_cond rfl (fun hb_19 => ?_) (fun hb_19 => ?_)
            · -- decide (i < (a.chans.length : Int)) = true
              have hx_20 := of_decide_eq_true hb_19
              refine C_skip ?_
              refine N_then ?_
              refine C_seq ?_
              refine C_block ?_
              refine C_seq ?_
              refine C_drawS (S) [(101, .blk g_1 [.slice Aa0 a.chans.length ca0, .bool a.common, .int .i64 a.mask, .slice Aa3 a.bands.length ca3, .slice Aa4 a.fill.length ca4] 26), (102, .blk g_2 [.slice Ab0 b.chans.length cb0, .bool b.common, .int .i64 b.mask, .slice Ab3 b.bands.length cb3, .slice Ab4 b.fill.length cb4] 26)] 12 (by kernel_rfl) rfl (fun h0_21 => ?_)
              refine A_take (i := 0) rfl (by kernel_rfl) (held_le ⟨rfl, rfl, trivial⟩ (ImLe.refl _) h0_21) rfl (pv_fieldAddr rfl fl_26_0) ?_
              refine A_take (i := 1) rfl (by kernel_rfl) (held_le ⟨rfl, rfl, trivial⟩ (ImLe.refl _) h0_21) rfl (pv_load rfl ag22 (Cell.blk 101 rfl rfl)) ?_
              refine A_take (i := 2) rfl (by kernel_rfl) (held_le ⟨rfl, rfl, trivial⟩ (ImLe.refl _) h0_21) rfl (pv_move rfl) ?_
              obtain ⟨us_22, hk_23, he_24⟩ := RdA.elt ha0 (i := i) (by omega) (by omega)
              obtain ⟨A_25, c_26, A_27, c_28, A_29, c_30, A_31, c_32, A_33, c_34, rfl, h_35, h_36, h_37, h_38, h_39, h_40, h_41, h_42, h_43⟩ := hk_23
              have hq_44 := InR.i64 h_35
              have hq_45 := InR.u8 h_36
              have hq_46 := InR.u8 h_37
              have hq_47 := InR.i64 h_38
              have hb_48 := h_39.bd
              have hb_49 := h_40.bd
              have hb_50 := h_41.bd
              have hb_51 := h_42.bd
              have hb_52 := h_43.bd
              refine A_take (i := 3) rfl (by kernel_rfl) (held_le ⟨rfl, rfl, trivial⟩ (ImLe.refl _) h0_21) rfl (pv_idx ha0 rfl rfl el22 sz37 (by omega) (by omega)) ?_
              refine A_take (i := 4) rfl (by kernel_rfl) (held_le ⟨rfl, rfl, trivial⟩ (ImLe.refl _) h0_21) rfl (pv_load_aggE (cs := [.int .i64 ((a.chans.getD (i).toNat default).gain), .int .u8 (((a.chans.getD (i).toNat default).info).seq), .int .u8 (((a.chans.getD (i).toNat default).info).shape), .int .i64 (((a.chans.getD (i).toNat default).info).max), .slice A_25 ((((a.chans.getD (i).toNat default).info).groups).length) c_26, .slice A_27 (((a.chans.getD (i).toNat default).sections).length) c_28, .slice A_29 (((a.chans.getD (i).toNat default).steps).length) c_30, .slice A_31 (((a.chans.getD (i).toNat default).tns).length) c_32, .slice A_33 (((a.chans.getD (i).toNat default).lines).length) c_34]) rfl ag37 sz37 (he_24 _ _ (ImLe.refl _))) ?_
              refine A_take (i := 5) rfl (by kernel_rfl) (held_le ⟨rfl, rfl, trivial⟩ (ImLe.refl _) h0_21) rfl (pv_fieldAddr rfl fl_26_0) ?_
              refine A_take (i := 6) rfl (by kernel_rfl) (held_le ⟨rfl, rfl, trivial⟩ (ImLe.refl _) h0_21) rfl (pv_load rfl ag22 (Cell.blk 102 rfl rfl)) ?_
              refine A_take (i := 7) rfl (by kernel_rfl) (held_le ⟨rfl, rfl, trivial⟩ (ImLe.refl _) h0_21) rfl (pv_move rfl) ?_
              obtain ⟨us_53, hk_54, he_55⟩ := RdA.elt hb0 (i := i) (by omega) (by omega)
              obtain ⟨A_56, c_57, A_58, c_59, A_60, c_61, A_62, c_63, A_64, c_65, rfl, h_66, h_67, h_68, h_69, h_70, h_71, h_72, h_73, h_74⟩ := hk_54
              have hq_75 := InR.i64 h_66
              have hq_76 := InR.u8 h_67
              have hq_77 := InR.u8 h_68
              have hq_78 := InR.i64 h_69
              have hb_79 := h_70.bd
              have hb_80 := h_71.bd
              have hb_81 := h_72.bd
              have hb_82 := h_73.bd
              have hb_83 := h_74.bd
              refine A_take (i := 8) rfl (by kernel_rfl) (held_le ⟨rfl, rfl, trivial⟩ (ImLe.refl _) h0_21) rfl (pv_idx hb0 rfl rfl el22 sz37 (by omega) (by omega)) ?_
              refine A_take (i := 9) rfl (by kernel_rfl) (held_le ⟨rfl, rfl, trivial⟩ (ImLe.refl _) h0_21) rfl (pv_load_aggE (cs := [.int .i64 ((b.chans.getD (i).toNat default).gain), .int .u8 (((b.chans.getD (i).toNat default).info).seq), .int .u8 (((b.chans.getD (i).toNat default).info).shape), .int .i64 (((b.chans.getD (i).toNat default).info).max), .slice A_56 ((((b.chans.getD (i).toNat default).info).groups).length) c_57, .slice A_58 (((b.chans.getD (i).toNat default).sections).length) c_59, .slice A_60 (((b.chans.getD (i).toNat default).steps).length) c_61, .slice A_62 (((b.chans.getD (i).toNat default).tns).length) c_63, .slice A_64 (((b.chans.getD (i).toNat default).lines).length) c_65]) rfl ag37 sz37 (he_55 _ _ (ImLe.refl _))) ?_
              refine A_one (i := 10) (by kernel_rfl) ?_
              refine AS_op rfl (op_call (fun _ h => by cases h; exact lt_of rfl) rfl rfl rfl en20 (f_r18_Same _ (a.chans.getD (i).toNat default) h_35 h_36 h_37 h_38 _ _ h_39 _ _ h_40 _ _ h_41 _ _ h_42 _ _ h_43 (b.chans.getD (i).toNat default) h_66 h_67 h_68 h_69 _ _ h_70 _ _ h_71 _ _ h_72 _ _ h_73 _ _ h_74) [] trivial (by simp) (by decide) ?_)
              rintro v_87 S_85 L_88 ⟨r_84, rfl, rfl, rfl, rfl⟩ hle_86
              refine ⟨rfl, ?_⟩
              refine ⟨fun _ => (held_le ⟨rfl, rfl, trivial⟩ (ImLe.refl _) h0_21), ?_⟩
              refine A_take (i := 11) rfl (by kernel_rfl) (held_le ⟨rfl, rfl, trivial⟩ (ImLe.refl _) h0_21) rfl (pv_not rfl) ?_
              refine A_done (by kernel_rfl) ?_
              refine N_then ?_
              refine C_cond rfl (fun hb_89 => ?_) (fun hb_89 => ?_)
              · -- !(decide ((a.chans.getD (i).toNat default) = (b.chans.getD (i).toNat default))) = true
                have hn_90 : (decide ((a.chans.getD (i).toNat default) = (b.chans.getD (i).toNat default))) = false := by simpa using hb_89
                have hx_91 := of_decide_eq_false hn_90
                refine C_seq ?_
                refine C_region rfl ?_
                refine T_pv rfl (pv_assign rfl) ?_
                refine T_nil ?_
                refine N_then ?_
                refine C_ret0 ?_
                refine R_block ?_
                refine R_then ?_
                refine R_loop ?_
                refine R_block ?_
                refine R_then ?_
                -- ret 5: .bool false
                refine Q_ret (vs := [.bool false]) ⟨rfl, trivial⟩ (L' := []) [] trivial (by simp) (by decide) (⟨false, rfl, rfl, rfl, ?_⟩)
                · rw [decide_eq_false_iff_not]
                  intro e
                  subst e
                  first | exact hx_91 rfl | exact absurd rfl (by assumption) | (simp at hx_91)
              · -- !(decide ((a.chans.getD (i).toNat default) = (b.chans.getD (i).toNat default))) = false
                have hn_92 : (decide ((a.chans.getD (i).toNat default) = (b.chans.getD (i).toNat default))) = true := by simpa using hb_89
                have hx_93 := of_decide_eq_true hn_92
                refine C_skip ?_
                refine N_block ?_
                refine N_then ?_
                refine C_region rfl ?_
                refine T_pv rfl (pv_move rfl) ?_
                have hr_94 : InR .i64 (i + 1) := inR_i64 (by omega) (by omega)
                refine T_pv rfl (pv_add rfl rfl hr_94) ?_
                refine T_pv rfl (pv_assign rfl) ?_
                refine T_nil ?_
                refine N_next (i + 1) ⟨by omega, by omega, eqL_next (by omega) (by omega) (by omega) q2 (by simpa using hx_93)⟩ (by first | omega | (dsimp only; omega)) rfl ⟨rfl, rfl, trivial⟩ ⟨rfl, rfl, rfl, rfl, rfl, rfl, rfl, rfl, rfl, rfl, rfl, rfl, rfl, rfl, rfl, rfl, rfl, rfl, rfl, rfl, rfl, rfl, rfl, rfl, rfl, rfl, rfl, rfl, rfl, rfl, rfl, rfl, rfl, rfl, rfl, rfl, rfl, rfl, rfl, rfl, rfl, rfl, rfl, rfl, trivial⟩
            · -- decide (i < (a.chans.length : Int)) = false
              have hx_95 := of_decide_eq_false hb_19
              refine C_exit ?_
              refine X_then ?_
              refine X_loop ?_
              refine X_block ?_
              refine N_then ?_
              refine C_seq ?_
              refine C_seq ?_
              refine C_region rfl ?_
              refine T_pv rfl (pv_assign rfl) ?_
              refine T_nil ?_
              refine N_then ?_
              refine C_block ?_
              refine C_loop (fun (x : Int) => (S, [(101, .blk g_1 [.slice Aa0 a.chans.length ca0, .bool a.common, .int .i64 a.mask, .slice Aa3 a.bands.length ca3, .slice Aa4 a.fill.length ca4] 26), (102, .blk g_2 [.slice Ab0 b.chans.length cb0, .bool b.common, .int .i64 b.mask, .slice Ab3 b.bands.length cb3, .slice Ab4 b.fill.length cb4] 26)], [(0, .agg #[.slice Aa0 a.chans.length ca0, .bool a.common, .int .i64 a.mask, .slice Aa3 a.bands.length ca3, .slice Aa4 a.fill.length ca4]), (1, .agg #[.slice Ab0 b.chans.length cb0, .bool b.common, .int .i64 b.mask, .slice Ab3 b.bands.length cb3, .slice Ab4 b.fill.length cb4]), (2, .pointer (some ⟨g_1, 0, none⟩)), (3, .pointer (some ⟨g_2, 0, none⟩)), (8, .pointer (some ⟨g_1, 1, none⟩)), (9, .bool a.common), (10, .pointer (some ⟨g_2, 1, none⟩)), (11, .bool b.common), (12, .bool (decide (a.common ≠ b.common))), (13, .bool (decide (a.common ≠ b.common))), (14, .pointer (some ⟨g_1, 2, none⟩)), (15, .int .i64 a.mask), (16, .pointer (some ⟨g_2, 2, none⟩)), (17, .int .i64 b.mask), (18, .bool (decide (a.mask ≠ b.mask))), (19, .bool (decide (a.mask ≠ b.mask))), (20, .bool (decide (a.mask ≠ b.mask))), (21, .pointer (some ⟨g_1, 4, none⟩)), (22, .slice Aa4 a.fill.length ca4), (23, .string (strB a.fill)), (24, .pointer (some ⟨g_2, 4, none⟩)), (25, .slice Ab4 b.fill.length cb4), (26, .string (strB b.fill)), (27, .bool (decide (a.fill ≠ b.fill))), (28, .bool (decide (a.fill ≠ b.fill))), (29, .bool (decide (a.fill ≠ b.fill))), (30, .pointer (some ⟨g_1, 0, none⟩)), (31, .slice Aa0 a.chans.length ca0), (32, .int .i64 (a.chans.length : Int)), (33, .pointer (some ⟨g_2, 0, none⟩)), (34, .slice Ab0 b.chans.length cb0), (35, .int .i64 (b.chans.length : Int)), (36, .bool (decide ((a.chans.length : Int) ≠ (b.chans.length : Int)))), (37, .bool (decide ((a.chans.length : Int) ≠ (b.chans.length : Int)))), (38, .bool (decide ((a.chans.length : Int) ≠ (b.chans.length : Int)))), (39, .pointer (some ⟨g_1, 3, none⟩)), (40, .slice Aa3 a.bands.length ca3), (41, .int .i64 (a.bands.length : Int)), (42, .pointer (some ⟨g_2, 3, none⟩)), (43, .slice Ab3 b.bands.length cb3), (44, .int .i64 (b.bands.length : Int)), (45, .bool (decide ((a.bands.length : Int) ≠ (b.bands.length : Int)))), (46, .bool (decide ((a.bands.length : Int) ≠ (b.bands.length : Int)))), (5, .int .i64 i), (47, .int .i64 i), (48, .pointer (some ⟨g_1, 0, none⟩)), (49, .slice Aa0 a.chans.length ca0), (50, .int .i64 (a.chans.length : Int)), (51, .bool (decide (i < (a.chans.length : Int)))), (6, .int .i64 x)])) (fun (x : Int) => 0 ≤ x ∧ x ≤ a.bands.length ∧ a.bands.take (x).toNat = b.bands.take (x).toNat) (fun (x : Int) => (a.bands.length - x).toNat) (0) ⟨by omega, by omega, by simp⟩ rfl ⟨rfl, rfl, trivial⟩ ⟨rfl, rfl, rfl, rfl, rfl, rfl, rfl, rfl, rfl, rfl, rfl, rfl, rfl, rfl, rfl, rfl, rfl, rfl, rfl, rfl, rfl, rfl, rfl, rfl, rfl, rfl, rfl, rfl, rfl, rfl, rfl, rfl, rfl, rfl, rfl, rfl, rfl, rfl, rfl, rfl, rfl, rfl, rfl, rfl, rfl, rfl, rfl, rfl, rfl, rfl, trivial⟩ ?_
              rintro k ⟨t0, t1, t2⟩
              dsimp only
              refine C_seq ?_
              refine C_seq ?_
              refine C_region rfl ?_
              refine T_pv rfl (pv_move rfl) ?_
              refine T_pv rfl (pv_fieldAddr rfl fl_26_3) ?_
              refine T_pv rfl (pv_load rfl ag23 (Cell.blk 101 rfl rfl)) ?_
              refine T_pv rfl (pv_len rfl el23) ?_
              refine T_pv rfl (pv_lss rfl rfl) ?_
              refine T_nil ?_
              refine N_then ?_
              refine C_cond rfl (fun hb_97 => ?_) (fun hb_97 => ?_)
              · -- decide (k < (a.bands.length : Int)) = true
                have hx_98 := of_decide_eq_true hb_97
                refine C_skip ?_
                refine N_then ?_
                refine C_seq ?_
                refine C_block ?_
                refine C_seq ?_
                refine C_seq ?_
                refine C_drawS (S) [(101, .blk g_1 [.slice Aa0 a.chans.length ca0, .bool a.common, .int .i64 a.mask, .slice Aa3 a.bands.length ca3, .slice Aa4 a.fill.length ca4] 26), (102, .blk g_2 [.slice Ab0 b.chans.length cb0, .bool b.common, .int .i64 b.mask, .slice Ab3 b.bands.length cb3, .slice Ab4 b.fill.length cb4] 26)] 13 (by kernel_rfl) rfl (fun h0_99 => ?_)
                refine A_take (i := 0) rfl (by kernel_rfl) (held_le ⟨rfl, rfl, trivial⟩ (ImLe.refl _) h0_99) rfl (pv_fieldAddr rfl fl_26_3) ?_
                refine A_take (i := 1) rfl (by kernel_rfl) (held_le ⟨rfl, rfl, trivial⟩ (ImLe.refl _) h0_99) rfl (pv_load rfl ag23 (Cell.blk 101 rfl rfl)) ?_
                refine A_take (i := 2) rfl (by kernel_rfl) (held_le ⟨rfl, rfl, trivial⟩ (ImLe.refl _) h0_99) rfl (pv_move rfl) ?_
                obtain ⟨us_100, hk_101, he_102⟩ := RdA.elt ha3 (i := k) (by omega) (by omega)
                obtain ⟨A_103, c_104, rfl, h_105⟩ := hk_101
                have hb_106 := h_105.bd
                refine A_take (i := 3) rfl (by kernel_rfl) (held_le ⟨rfl, rfl, trivial⟩ (ImLe.refl _) h0_99) rfl (pv_idx ha3 rfl rfl el23 sz38 (by omega) (by omega)) ?_
                refine A_take (i := 4) rfl (by kernel_rfl) (held_le ⟨rfl, rfl, trivial⟩ (ImLe.refl _) h0_99) rfl (pv_load rfl ag38 ((he_102 _ _ (ImLe.refl _)).zero rfl)) ?_
                refine A_take (i := 5) rfl (by kernel_rfl) (held_le ⟨rfl, rfl, trivial⟩ (ImLe.refl _) h0_99) rfl (pv_len rfl el38) ?_
                refine A_take (i := 6) rfl (by kernel_rfl) (held_le ⟨rfl, rfl, trivial⟩ (ImLe.refl _) h0_99) rfl (pv_fieldAddr rfl fl_26_3) ?_
                refine A_take (i := 7) rfl (by kernel_rfl) (held_le ⟨rfl, rfl, trivial⟩ (ImLe.refl _) h0_99) rfl (pv_load rfl ag23 (Cell.blk 102 rfl rfl)) ?_
                refine A_take (i := 8) rfl (by kernel_rfl) (held_le ⟨rfl, rfl, trivial⟩ (ImLe.refl _) h0_99) rfl (pv_move rfl) ?_
                obtain ⟨us_107, hk_108, he_109⟩ := RdA.elt hb3 (i := k) (by omega) (by omega)
                obtain ⟨A_110, c_111, rfl, h_112⟩ := hk_108
                have hb_113 := h_112.bd
                refine A_take (i := 9) rfl (by kernel_rfl) (held_le ⟨rfl, rfl, trivial⟩ (ImLe.refl _) h0_99) rfl (pv_idx hb3 rfl rfl el23 sz38 (by omega) (by omega)) ?_
                refine A_take (i := 10) rfl (by kernel_rfl) (held_le ⟨rfl, rfl, trivial⟩ (ImLe.refl _) h0_99) rfl (pv_load rfl ag38 ((he_109 _ _ (ImLe.refl _)).zero rfl)) ?_
                refine A_take (i := 11) rfl (by kernel_rfl) (held_le ⟨rfl, rfl, trivial⟩ (ImLe.refl _) h0_99) rfl (pv_len rfl el38) ?_
                refine A_take (i := 12) rfl (by kernel_rfl) (held_le ⟨rfl, rfl, trivial⟩ (ImLe.refl _) h0_99) rfl (pv_nei rfl rfl) ?_
                refine A_done (by kernel_rfl) ?_
                refine N_then ?_
                refine C_cond rfl (fun hb_114 => ?_) (fun hb_114 => ?_)
                · -- decide (((a.bands.getD (k).toNat default).length : Int) ≠ ((b.bands.getD (k).toNat default).length : Int)) = true
                  have hx_115 := of_decide_eq_true hb_114
                  refine C_seq ?_
                  refine C_region rfl ?_
                  refine T_pv rfl (pv_assign rfl) ?_
                  refine T_nil ?_
                  refine N_then ?_
                  refine C_ret0 ?_
                  refine R_then ?_
                  refine R_block ?_
                  refine R_then ?_
                  refine R_loop ?_
                  refine R_block ?_
                  refine R_then ?_
                  -- ret 6: .bool false
                  refine Q_ret (vs := [.bool false]) ⟨rfl, trivial⟩ (L' := []) [] trivial (by simp) (by decide) (⟨false, rfl, rfl, rfl, ?_⟩)
                  · rw [decide_eq_false_iff_not]
                    intro e
                    subst e
                    first | exact hx_115 rfl | exact absurd rfl (by assumption) | (simp at hx_115)
                · -- decide (((a.bands.getD (k).toNat default).length : Int) ≠ ((b.bands.getD (k).toNat default).length : Int)) = false
                  have hx_116 := of_decide_eq_false hb_114
                  refine C_skip ?_
                  refine N_then ?_
                  refine C_seq ?_
                  refine C_region rfl ?_
                  refine T_pv rfl (pv_assign rfl) ?_
                  refine T_nil ?_
                  refine N_then ?_
                  refine C_block ?_
                  refine C_loop (fun (x : Int) => (S, [(101, .blk g_1 [.slice Aa0 a.chans.length ca0, .bool a.common, .int .i64 a.mask, .slice Aa3 a.bands.length ca3, .slice Aa4 a.fill.length ca4] 26), (102, .blk g_2 [.slice Ab0 b.chans.length cb0, .bool b.common, .int .i64 b.mask, .slice Ab3 b.bands.length cb3, .slice Ab4 b.fill.length cb4] 26)], [(0, .agg #[.slice Aa0 a.chans.length ca0, .bool a.common, .int .i64 a.mask, .slice Aa3 a.bands.length ca3, .slice Aa4 a.fill.length ca4]), (1, .agg #[.slice Ab0 b.chans.length cb0, .bool b.common, .int .i64 b.mask, .slice Ab3 b.bands.length cb3, .slice Ab4 b.fill.length cb4]), (2, .pointer (some ⟨g_1, 0, none⟩)), (3, .pointer (some ⟨g_2, 0, none⟩)), (8, .pointer (some ⟨g_1, 1, none⟩)), (9, .bool a.common), (10, .pointer (some ⟨g_2, 1, none⟩)), (11, .bool b.common), (12, .bool (decide (a.common ≠ b.common))), (13, .bool (decide (a.common ≠ b.common))), (14, .pointer (some ⟨g_1, 2, none⟩)), (15, .int .i64 a.mask), (16, .pointer (some ⟨g_2, 2, none⟩)), (17, .int .i64 b.mask), (18, .bool (decide (a.mask ≠ b.mask))), (19, .bool (decide (a.mask ≠ b.mask))), (20, .bool (decide (a.mask ≠ b.mask))), (21, .pointer (some ⟨g_1, 4, none⟩)), (22, .slice Aa4 a.fill.length ca4), (23, .string (strB a.fill)), (24, .pointer (some ⟨g_2, 4, none⟩)), (25, .slice Ab4 b.fill.length cb4), (26, .string (strB b.fill)), (27, .bool (decide (a.fill ≠ b.fill))), (28, .bool (decide (a.fill ≠ b.fill))), (29, .bool (decide (a.fill ≠ b.fill))), (30, .pointer (some ⟨g_1, 0, none⟩)), (31, .slice Aa0 a.chans.length ca0), (32, .int .i64 (a.chans.length : Int)), (33, .pointer (some ⟨g_2, 0, none⟩)), (34, .slice Ab0 b.chans.length cb0), (35, .int .i64 (b.chans.length : Int)), (36, .bool (decide ((a.chans.length : Int) ≠ (b.chans.length : Int)))), (37, .bool (decide ((a.chans.length : Int) ≠ (b.chans.length : Int)))), (38, .bool (decide ((a.chans.length : Int) ≠ (b.chans.length : Int)))), (39, .pointer (some ⟨g_1, 3, none⟩)), (40, .slice Aa3 a.bands.length ca3), (41, .int .i64 (a.bands.length : Int)), (42, .pointer (some ⟨g_2, 3, none⟩)), (43, .slice Ab3 b.bands.length cb3), (44, .int .i64 (b.bands.length : Int)), (45, .bool (decide ((a.bands.length : Int) ≠ (b.bands.length : Int)))), (46, .bool (decide ((a.bands.length : Int) ≠ (b.bands.length : Int)))), (5, .int .i64 i), (47, .int .i64 i), (48, .pointer (some ⟨g_1, 0, none⟩)), (49, .slice Aa0 a.chans.length ca0), (50, .int .i64 (a.chans.length : Int)), (51, .bool (decide (i < (a.chans.length : Int)))), (6, .int .i64 k), (66, .int .i64 k), (67, .pointer (some ⟨g_1, 3, none⟩)), (68, .slice Aa3 a.bands.length ca3), (69, .int .i64 (a.bands.length : Int)), (70, .bool (decide (k < (a.bands.length : Int)))), (73, .pointer (some ⟨g_1, 3, none⟩)), (74, .slice Aa3 a.bands.length ca3), (75, .int .i64 k), (76, .pointer (some (adr Aa3 ((k).toNat * 1)))), (77, .slice A_103 ((a.bands.getD (k).toNat default).length) c_104), (78, .int .i64 ((a.bands.getD (k).toNat default).length : Int)), (79, .pointer (some ⟨g_2, 3, none⟩)), (80, .slice Ab3 b.bands.length cb3), (81, .int .i64 k), (82, .pointer (some (adr Ab3 ((k).toNat * 1)))), (83, .slice A_110 ((b.bands.getD (k).toNat default).length) c_111), (84, .int .i64 ((b.bands.getD (k).toNat default).length : Int)), (85, .bool (decide (((a.bands.getD (k).toNat default).length : Int) ≠ ((b.bands.getD (k).toNat default).length : Int)))), (7, .int .i64 x)])) (fun (x : Int) => 0 ≤ x ∧ x ≤ (a.bands.getD (k).toNat default).length ∧ (a.bands.getD (k).toNat default).take (x).toNat = (b.bands.getD (k).toNat default).take (x).toNat) (fun (x : Int) => ((a.bands.getD (k).toNat default).length - x).toNat) (0) ⟨by omega, by omega, by simp⟩ rfl ⟨rfl, rfl, trivial⟩ ⟨rfl, rfl, rfl, rfl, rfl, rfl, rfl, rfl, rfl, rfl, rfl, rfl, rfl, rfl, rfl, rfl, rfl, rfl, rfl, rfl, rfl, rfl, rfl, rfl, rfl, rfl, rfl, rfl, rfl, rfl, rfl, rfl, rfl, rfl, rfl, rfl, rfl, rfl, rfl, rfl, rfl, rfl, rfl, rfl, rfl, rfl, rfl, rfl, rfl, rfl, rfl, rfl, rfl, rfl, rfl, rfl, rfl, rfl, rfl, rfl, rfl, rfl, rfl, rfl, rfl, rfl, rfl, rfl, rfl, trivial⟩ ?_
                  rintro j ⟨s0, s1, s2⟩
                  dsimp only
                  refine C_seq ?_
                  refine C_seq ?_
                  refine C_region rfl ?_
                  refine T_pv rfl (pv_move rfl) ?_
                  refine T_pv rfl (pv_fieldAddr rfl fl_26_3) ?_
                  refine T_pv rfl (pv_load rfl ag23 (Cell.blk 101 rfl rfl)) ?_
                  refine T_pv rfl (pv_move rfl) ?_
                  refine T_pv rfl (pv_idx ha3 rfl rfl el23 sz38 (by omega) (by omega)) ?_
                  refine T_pv rfl (pv_load rfl ag38 ((he_102 _ _ (ImLe.refl _)).zero rfl)) ?_
                  refine T_pv rfl (pv_len rfl el38) ?_
                  refine T_pv rfl (pv_lss rfl rfl) ?_
                  refine T_nil ?_
                  refine N_then ?_
                  refine C_cond rfl (fun hb_118 => ?_) (fun hb_118 => ?_)
                  · -- decide (j < ((a.bands.getD (k).toNat default).length : Int)) = true
                    have hx_119 := of_decide_eq_true hb_118
                    refine C_skip ?_
                    refine N_then ?_
                    refine C_seq ?_
                    refine C_block ?_
                    refine C_seq ?_
                    refine C_drawS (S) [(101, .blk g_1 [.slice Aa0 a.chans.length ca0, .bool a.common, .int .i64 a.mask, .slice Aa3 a.bands.length ca3, .slice Aa4 a.fill.length ca4] 26), (102, .blk g_2 [.slice Ab0 b.chans.length cb0, .bool b.common, .int .i64 b.mask, .slice Ab3 b.bands.length cb3, .slice Ab4 b.fill.length cb4] 26)] 17 (by kernel_rfl) rfl (fun h0_120 => ?_)
                    refine A_take (i := 0) rfl (by kernel_rfl) (held_le ⟨rfl, rfl, trivial⟩ (ImLe.refl _) h0_120) rfl (pv_fieldAddr rfl fl_26_3) ?_
                    refine A_take (i := 1) rfl (by kernel_rfl) (held_le ⟨rfl, rfl, trivial⟩ (ImLe.refl _) h0_120) rfl (pv_load rfl ag23 (Cell.blk 101 rfl rfl)) ?_
                    refine A_take (i := 2) rfl (by kernel_rfl) (held_le ⟨rfl, rfl, trivial⟩ (ImLe.refl _) h0_120) rfl (pv_move rfl) ?_
                    refine A_take (i := 3) rfl (by kernel_rfl) (held_le ⟨rfl, rfl, trivial⟩ (ImLe.refl _) h0_120) rfl (pv_idx ha3 rfl rfl el23 sz38 (by omega) (by omega)) ?_
                    refine A_take (i := 4) rfl (by kernel_rfl) (held_le ⟨rfl, rfl, trivial⟩ (ImLe.refl _) h0_120) rfl (pv_load rfl ag38 ((he_102 _ _ (ImLe.refl _)).zero rfl)) ?_
                    refine A_take (i := 5) rfl (by kernel_rfl) (held_le ⟨rfl, rfl, trivial⟩ (ImLe.refl _) h0_120) rfl (pv_move rfl) ?_
                    obtain ⟨us_121, hk_122, he_123⟩ := RdA.elt h_105 (i := j) (by omega) (by omega)
                    obtain rfl := hk_122
                    refine A_take (i := 6) rfl (by kernel_rfl) (held_le ⟨rfl, rfl, trivial⟩ (ImLe.refl _) h0_120) rfl (pv_idx h_105 rfl rfl el38 sz4 (by omega) (by omega)) ?_
                    refine A_take (i := 7) rfl (by kernel_rfl) (held_le ⟨rfl, rfl, trivial⟩ (ImLe.refl _) h0_120) rfl (pv_load rfl ag4 ((he_123 _ _ (ImLe.refl _)).zero rfl)) ?_
                    refine A_take (i := 8) rfl (by kernel_rfl) (held_le ⟨rfl, rfl, trivial⟩ (ImLe.refl _) h0_120) rfl (pv_fieldAddr rfl fl_26_3) ?_
                    refine A_take (i := 9) rfl (by kernel_rfl) (held_le ⟨rfl, rfl, trivial⟩ (ImLe.refl _) h0_120) rfl (pv_load rfl ag23 (Cell.blk 102 rfl rfl)) ?_
                    refine A_take (i := 10) rfl (by kernel_rfl) (held_le ⟨rfl, rfl, trivial⟩ (ImLe.refl _) h0_120) rfl (pv_move rfl) ?_
                    refine A_take (i := 11) rfl (by kernel_rfl) (held_le ⟨rfl, rfl, trivial⟩ (ImLe.refl _) h0_120) rfl (pv_idx hb3 rfl rfl el23 sz38 (by omega) (by omega)) ?_
                    refine A_take (i := 12) rfl (by kernel_rfl) (held_le ⟨rfl, rfl, trivial⟩ (ImLe.refl _) h0_120) rfl (pv_load rfl ag38 ((he_109 _ _ (ImLe.refl _)).zero rfl)) ?_
                    refine A_take (i := 13) rfl (by kernel_rfl) (held_le ⟨rfl, rfl, trivial⟩ (ImLe.refl _) h0_120) rfl (pv_move rfl) ?_
                    obtain ⟨us_124, hk_125, he_126⟩ := RdA.elt h_112 (i := j) (by omega) (by omega)
                    obtain rfl := hk_125
                    refine A_take (i := 14) rfl (by kernel_rfl) (held_le ⟨rfl, rfl, trivial⟩ (ImLe.refl _) h0_120) rfl (pv_idx h_112 rfl rfl el38 sz4 (by omega) (by omega)) ?_
                    refine A_take (i := 15) rfl (by kernel_rfl) (held_le ⟨rfl, rfl, trivial⟩ (ImLe.refl _) h0_120) rfl (pv_load rfl ag4 ((he_126 _ _ (ImLe.refl _)).zero rfl)) ?_
                    refine A_take (i := 16) rfl (by kernel_rfl) (held_le ⟨rfl, rfl, trivial⟩ (ImLe.refl _) h0_120) rfl (pv_neqbd rfl rfl un4) ?_
                    refine A_done (by kernel_rfl) ?_
                    refine N_then ?_
                    refine C_cond rfl (fun hb_127 => ?_) (fun hb_127 => ?_)
                    · -- decide (((a.bands.getD (k).toNat default).getD (j).toNat default) ≠ ((b.bands.getD (k).toNat default).getD (j).toNat default)) = true
                      have hx_128 := of_decide_eq_true hb_127
                      refine C_seq ?_
                      refine C_region rfl ?_
                      refine T_pv rfl (pv_assign rfl) ?_
                      refine T_nil ?_
                      refine N_then ?_
                      refine C_ret0 ?_
                      refine R_block ?_
                      refine R_then ?_
                      refine R_loop ?_
                      refine R_block ?_
                      refine R_block ?_
                      refine R_then ?_
                      refine R_loop ?_
                      refine R_block ?_
                      refine R_then ?_
                      -- ret 7: .bool false
                      refine Q_ret (vs := [.bool false]) ⟨rfl, trivial⟩ (L' := []) [] trivial (by simp) (by decide) (⟨false, rfl, rfl, rfl, ?_⟩)
                      · rw [decide_eq_false_iff_not]
                        intro e
                        subst e
                        first | exact hx_128 rfl | exact absurd rfl (by assumption) | (simp at hx_128)
                    · -- decide (((a.bands.getD (k).toNat default).getD (j).toNat default) ≠ ((b.bands.getD (k).toNat default).getD (j).toNat default)) = false
                      have hx_129 := of_decide_eq_false hb_127
                      refine C_skip ?_
                      refine N_block ?_
                      refine N_then ?_
                      refine C_region rfl ?_
                      refine T_pv rfl (pv_move rfl) ?_
                      have hr_130 : InR .i64 (j + 1) := inR_i64 (by omega) (by omega)
                      refine T_pv rfl (pv_add rfl rfl hr_130) ?_
                      refine T_pv rfl (pv_assign rfl) ?_
                      refine T_nil ?_
                      refine N_next (j + 1) ⟨by omega, by omega, eqL_next (by omega) (by omega) (by omega) s2 (by simpa using hx_129)⟩ (by first | omega | (dsimp only; omega)) rfl ⟨rfl, rfl, trivial⟩ ⟨rfl, rfl, rfl, rfl, rfl, rfl, rfl, rfl, rfl, rfl, rfl, rfl, rfl, rfl, rfl, rfl, rfl, rfl, rfl, rfl, rfl, rfl, rfl, rfl, rfl, rfl, rfl, rfl, rfl, rfl, rfl, rfl, rfl, rfl, rfl, rfl, rfl, rfl, rfl, rfl, rfl, rfl, rfl, rfl, rfl, rfl, rfl, rfl, rfl, rfl, rfl, rfl, rfl, rfl, rfl, rfl, rfl, rfl, rfl, rfl, rfl, rfl, rfl, rfl, rfl, rfl, rfl, rfl, rfl, trivial⟩
                  · -- decide (j < ((a.bands.getD (k).toNat default).length : Int)) = false
                    have hx_131 := of_decide_eq_false hb_118
                    refine C_exit ?_
                    refine X_then ?_
                    refine X_loop ?_
                    refine X_block ?_
                    refine N_block ?_
                    refine N_then ?_
                    refine C_region rfl ?_
                    refine T_pv rfl (pv_move rfl) ?_
                    have hr_132 : InR .i64 (k + 1) := inR_i64 (by omega) (by omega)
                    refine T_pv rfl (pv_add rfl rfl hr_132) ?_
                    refine T_pv rfl (pv_assign rfl) ?_
                    refine T_nil ?_
                    refine N_next (k + 1) ⟨by omega, by omega, eqL_next (by omega) (by omega) (by omega) t2 (of_decide_eq_true (eqL_all (i := j) (by omega) (by omega) s2).symm)⟩ (by first | omega | (dsimp only; omega)) rfl ⟨rfl, rfl, trivial⟩ ⟨rfl, rfl, rfl, rfl, rfl, rfl, rfl, rfl, rfl, rfl, rfl, rfl, rfl, rfl, rfl, rfl, rfl, rfl, rfl, rfl, rfl, rfl, rfl, rfl, rfl, rfl, rfl, rfl, rfl, rfl, rfl, rfl, rfl, rfl, rfl, rfl, rfl, rfl, rfl, rfl, rfl, rfl, rfl, rfl, rfl, rfl, rfl, rfl, rfl, rfl, trivial⟩
              · -- decide (k < (a.bands.length : Int)) = false
                have hx_133 := of_decide_eq_false hb_97
                refine C_exit ?_
                refine X_then ?_
                refine X_loop ?_
                refine X_block ?_
                refine N_then ?_
                refine C_seq ?_
                refine C_region rfl ?_
                refine T_pv rfl (pv_assign rfl) ?_
                refine T_nil ?_
                refine N_then ?_
                refine C_ret0 ?_
                -- ret 8: .bool true
                refine Q_ret (vs := [.bool true]) ⟨rfl, trivial⟩ (L' := []) [] trivial (by simp) (by decide) (⟨true, rfl, rfl, rfl, ?_⟩)
                · have ec : a.chans = b.chans := of_decide_eq_true (eqL_all (i := i) (by omega) (by omega) q2).symm
                  have eb : a.bands = b.bands := of_decide_eq_true (eqL_all (i := k) (by omega) (by omega) t2).symm
                  simp only [decide_eq_true_iff, GFrame.eq_iff]
                  refine ⟨ec, ?_, ?_, eb, ?_⟩ <;> (first | assumption | omega | (apply Classical.byContradiction; intro hc; exact absurd hc (by assumption)))

end Go.Proofs.Ythamgiecgilmdaa
