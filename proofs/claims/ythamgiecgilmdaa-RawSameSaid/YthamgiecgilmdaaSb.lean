/- Walks, printed by wip/tool/walk2.py. -/
import Derived.Test.YthamgiecgilmdaaSa
import Derived.Test.YthamgiecgilmdaaSm
namespace Go.Proofs.Ythamgiecgilmdaa
open Go Go.RowKit

set_option maxRecDepth 100000 in
theorem f_r18_Great (S : Im) (c : GChan) (hc0 : InR .i64 c.gain) (hc1 : InR .u8 c.info.seq) (hc2 : InR .u8 c.info.shape) (hc3 : InR .i64 c.info.max) (Ac4 : Option Addr) (cc4 : Nat) (hc4 : RdA (kInt .i64) S Ac4 cc4 c.info.groups) (Ac5 : Option Addr) (cc5 : Nat) (hc5 : RdA (kSl kGSection) S Ac5 cc5 c.sections) (Ac6 : Option Addr) (cc6 : Nat) (hc6 : RdA (kSl (kInt .i64)) S Ac6 cc6 c.steps) (Ac7 : Option Addr) (cc7 : Nat) (hc7 : RdA (kSl kGFilter) S Ac7 cc7 c.tns) (Ac8 : Option Addr) (cc8 : Nat) (hc8 : RdA (kInt .i64) S Ac8 cc8 c.lines) : Fn Try.prog 9 [.agg #[.int .i64 c.gain, .int .u8 c.info.seq, .int .u8 c.info.shape, .int .i64 c.info.max, .slice Ac4 c.info.groups.length cc4, .slice Ac5 c.sections.length cc5, .slice Ac6 c.steps.length cc6, .slice Ac7 c.tns.length cc7, .slice Ac8 c.lines.length cc8]] S [] fun v S' L' => ∃ (r0 : Bool), v = .bool r0 ∧ S = S' ∧ L' = [] ∧ (r0 = false → GChan.small c) := by
  have hb_c0 := InR.i64 hc0
  have hb_c1 := InR.u8 hc1
  have hb_c2 := InR.u8 hc2
  have hb_c3 := InR.i64 hc3
  have hb_c4 := hc4.bd
  have hb_c5 := hc5.bd
  have hb_c6 := hc6.bd
  have hb_c7 := hc7.bd
  have hb_c8 := hc8.bd
  refine Fn_intro 99 Try.func9 rfl rfl rfl fun w0 => ?_
  refine C_seq ?_
  refine C_region rfl ?_
  refine T_cons (op_box (cs := [.int .i64 c.gain, .int .u8 c.info.seq, .int .u8 c.info.shape, .int .i64 c.info.max, .slice Ac4 c.info.groups.length cc4, .slice Ac5 c.sections.length cc5, .slice Ac6 c.steps.length cc6, .slice Ac7 c.tns.length cc7, .slice Ac8 c.lines.length cc8]) (lt_of rfl) 101 rfl rfl fun g_1 => ?_)
  refine T_pv rfl (pv_assign rfl) ?_
  refine T_nil ?_
  refine N_then ?_
  refine C_seq ?_
  refine C_seq ?_
  refine C_region rfl ?_
  refine T_pv rfl (pv_fieldAddr rfl fl_37_1) ?_
  refine T_pv rfl (pv_fieldAddr rfl fl_32_3) ?_
  refine T_pv rfl (pv_load rfl ag30 (Cell.blk 101 rfl rfl)) ?_
  refine T_pv rfl (pv_len rfl el30) ?_
  refine T_pv rfl (pv_gtr rfl rfl) ?_
  refine T_pv rfl (pv_move rfl) ?_
  refine T_gs (dj := 12) rfl (fun hb_2 => ?_) (fun hb_2 => ?_)
  · -- decide (40 < (c.info.groups.length : Int)) = true
    have hx_3 := of_decide_eq_true hb_2
    refine T_gn rfl rfl hb_2 rfl ?_
    refine T_gn rfl rfl hb_2 rfl ?_
    refine T_gn rfl rfl hb_2 rfl ?_
    refine T_gn rfl rfl hb_2 rfl ?_
    refine T_pv rfl (pv_pick_t rfl hb_2 rfl) ?_
    refine T_pv rfl (pv_move rfl) ?_
    refine T_gn rfl rfl rfl rfl ?_
    refine T_gn rfl rfl rfl rfl ?_
    refine T_gn rfl rfl rfl rfl ?_
    refine T_gn rfl rfl rfl rfl ?_
    refine T_pv rfl (pv_pick_t rfl rfl rfl) ?_
    refine T_pv rfl (pv_move rfl) ?_
    refine T_gn rfl rfl rfl rfl ?_
    refine T_gn rfl rfl rfl rfl ?_
    refine T_gn rfl rfl rfl rfl ?_
    refine T_gn rfl rfl rfl rfl ?_
    refine T_pv rfl (pv_pick_t rfl rfl rfl) ?_
    refine T_pv rfl (pv_move rfl) ?_
    refine T_gn rfl rfl rfl rfl ?_
    refine T_gn rfl rfl rfl rfl ?_
    refine T_gn rfl rfl rfl rfl ?_
    refine T_gn rfl rfl rfl rfl ?_
    refine T_pv rfl (pv_pick_t rfl rfl rfl) ?_
    refine T_nil ?_
    refine N_then ?_
    refine C_condt rfl rfl ?_
    refine C_seq ?_
    refine C_region rfl ?_
    refine T_pv rfl (pv_assign rfl) ?_
    refine T_nil ?_
    refine N_then ?_
    refine C_ret0 ?_
    refine R_then ?_
    -- ret 0: .bool true
    refine Q_ret (vs := [.bool true]) ⟨rfl, trivial⟩ (L' := []) [] trivial (by simp) (by decide) (⟨true, rfl, rfl, rfl, ?_⟩)
    · exact fun h => by cases h
  · -- decide (40 < (c.info.groups.length : Int)) = false
    have hx_4 := of_decide_eq_false hb_2
    refine T_gy rfl rfl hb_2 rfl (pv_fieldAddr rfl fl_37_2) ?_
    refine T_gy rfl rfl hb_2 rfl (pv_load rfl ag33 (Cell.blk 101 rfl rfl)) ?_
    refine T_gy rfl rfl hb_2 rfl (pv_len rfl el33) ?_
    refine T_gy rfl rfl hb_2 rfl (pv_gtr rfl rfl) ?_
    refine T_pv rfl (pv_pick_f rfl hb_2 rfl) ?_
    refine T_pv rfl (pv_move rfl) ?_
    refine T_gs (dj := 18) rfl (fun hb_5 => ?_) (fun hb_5 => ?_)
    · -- decide (40 < (c.sections.length : Int)) = true
      have hx_6 := of_decide_eq_true hb_5
      refine T_gn rfl rfl hb_5 rfl ?_
      refine T_gn rfl rfl hb_5 rfl ?_
      refine T_gn rfl rfl hb_5 rfl ?_
      refine T_gn rfl rfl hb_5 rfl ?_
      refine T_pv rfl (pv_pick_t rfl hb_5 rfl) ?_
      refine T_pv rfl (pv_move rfl) ?_
      refine T_gn rfl rfl rfl rfl ?_
      refine T_gn rfl rfl rfl rfl ?_
      refine T_gn rfl rfl rfl rfl ?_
      refine T_gn rfl rfl rfl rfl ?_
      refine T_pv rfl (pv_pick_t rfl rfl rfl) ?_
      refine T_pv rfl (pv_move rfl) ?_
      refine T_gn rfl rfl rfl rfl ?_
      refine T_gn rfl rfl rfl rfl ?_
      refine T_gn rfl rfl rfl rfl ?_
      refine T_gn rfl rfl rfl rfl ?_
      refine T_pv rfl (pv_pick_t rfl rfl rfl) ?_
      refine T_nil ?_
      refine N_then ?_
      refine C_condt rfl rfl ?_
      refine C_seq ?_
      refine C_region rfl ?_
      refine T_pv rfl (pv_assign rfl) ?_
      refine T_nil ?_
      refine N_then ?_
      refine C_ret0 ?_
      refine R_then ?_
      -- ret 1: .bool true
      refine Q_ret (vs := [.bool true]) ⟨rfl, trivial⟩ (L' := []) [] trivial (by simp) (by decide) (⟨true, rfl, rfl, rfl, ?_⟩)
      · exact fun h => by cases h
    · -- decide (40 < (c.sections.length : Int)) = false
      have hx_7 := of_decide_eq_false hb_5
      refine T_gy rfl rfl hb_5 rfl (pv_fieldAddr rfl fl_37_3) ?_
      refine T_gy rfl rfl hb_5 rfl (pv_load rfl ag34 (Cell.blk 101 rfl rfl)) ?_
      refine T_gy rfl rfl hb_5 rfl (pv_len rfl el34) ?_
      refine T_gy rfl rfl hb_5 rfl (pv_gtr rfl rfl) ?_
      refine T_pv rfl (pv_pick_f rfl hb_5 rfl) ?_
      refine T_pv rfl (pv_move rfl) ?_
      refine T_gs (dj := 24) rfl (fun hb_8 => ?_) (fun hb_8 => ?_)
      · -- decide (40 < (c.steps.length : Int)) = true
        have hx_9 := of_decide_eq_true hb_8
        refine T_gn rfl rfl hb_8 rfl ?_
        refine T_gn rfl rfl hb_8 rfl ?_
        refine T_gn rfl rfl hb_8 rfl ?_
        refine T_gn rfl rfl hb_8 rfl ?_
        refine T_pv rfl (pv_pick_t rfl hb_8 rfl) ?_
        refine T_pv rfl (pv_move rfl) ?_
        refine T_gn rfl rfl rfl rfl ?_
        refine T_gn rfl rfl rfl rfl ?_
        refine T_gn rfl rfl rfl rfl ?_
        refine T_gn rfl rfl rfl rfl ?_
        refine T_pv rfl (pv_pick_t rfl rfl rfl) ?_
        refine T_nil ?_
        refine N_then ?_
        refine C_condt rfl rfl ?_
        refine C_seq ?_
        refine C_region rfl ?_
        refine T_pv rfl (pv_assign rfl) ?_
        refine T_nil ?_
        refine N_then ?_
        refine C_ret0 ?_
        refine R_then ?_
        -- ret 2: .bool true
        refine Q_ret (vs := [.bool true]) ⟨rfl, trivial⟩ (L' := []) [] trivial (by simp) (by decide) (⟨true, rfl, rfl, rfl, ?_⟩)
        · exact fun h => by cases h
      · -- decide (40 < (c.steps.length : Int)) = false
        have hx_10 := of_decide_eq_false hb_8
        refine T_gy rfl rfl hb_8 rfl (pv_fieldAddr rfl fl_37_4) ?_
        refine T_gy rfl rfl hb_8 rfl (pv_load rfl ag35 (Cell.blk 101 rfl rfl)) ?_
        refine T_gy rfl rfl hb_8 rfl (pv_len rfl el35) ?_
        refine T_gy rfl rfl hb_8 rfl (pv_gtr rfl rfl) ?_
        refine T_pv rfl (pv_pick_f rfl hb_8 rfl) ?_
        refine T_pv rfl (pv_move rfl) ?_
        refine T_gs (dj := 30) rfl (fun hb_11 => ?_) (fun hb_11 => ?_)
        · -- decide (40 < (c.tns.length : Int)) = true
          have hx_12 := of_decide_eq_true hb_11
          refine T_gn rfl rfl hb_11 rfl ?_
          refine T_gn rfl rfl hb_11 rfl ?_
          refine T_gn rfl rfl hb_11 rfl ?_
          refine T_gn rfl rfl hb_11 rfl ?_
          refine T_pv rfl (pv_pick_t rfl hb_11 rfl) ?_
          refine T_nil ?_
          refine N_then ?_
          refine C_condt rfl rfl ?_
          refine C_seq ?_
          refine C_region rfl ?_
          refine T_pv rfl (pv_assign rfl) ?_
          refine T_nil ?_
          refine N_then ?_
          refine C_ret0 ?_
          refine R_then ?_
          -- ret 3: .bool true
          refine Q_ret (vs := [.bool true]) ⟨rfl, trivial⟩ (L' := []) [] trivial (by simp) (by decide) (⟨true, rfl, rfl, rfl, ?_⟩)
          · exact fun h => by cases h
        · -- decide (40 < (c.tns.length : Int)) = false
          have hx_13 := of_decide_eq_false hb_11
          refine T_gy rfl rfl hb_11 rfl (pv_fieldAddr rfl fl_37_5) ?_
          refine T_gy rfl rfl hb_11 rfl (pv_load rfl ag30 (Cell.blk 101 rfl rfl)) ?_
          refine T_gy rfl rfl hb_11 rfl (pv_len rfl el30) ?_
          refine T_gy rfl rfl hb_11 rfl (pv_gtr rfl rfl) ?_
          refine T_pv rfl (pv_pick_f rfl hb_11 rfl) ?_
          refine T_nil ?_
          refine N_then ?_
          refine C_cond rfl (fun hb_14 => ?_) (fun hb_14 => ?_)
          · -- decide (2000 < (c.lines.length : Int)) = true
            have hx_15 := of_decide_eq_true hb_14
            refine C_seq ?_
            refine C_region rfl ?_
            refine T_pv rfl (pv_assign rfl) ?_
            refine T_nil ?_
            refine N_then ?_
            refine C_ret0 ?_
            refine R_then ?_
            -- ret 4: .bool true
            refine Q_ret (vs := [.bool true]) ⟨rfl, trivial⟩ (L' := []) [] trivial (by simp) (by decide) (⟨true, rfl, rfl, rfl, ?_⟩)
            · exact fun h => by cases h
          · -- decide (2000 < (c.lines.length : Int)) = false
            have hx_16 := of_decide_eq_false hb_14
            refine C_skip ?_
            refine N_then ?_
            refine C_seq ?_
            refine C_seq ?_
            refine C_region rfl ?_
            refine T_pv rfl (pv_assign rfl) ?_
            refine T_nil ?_
            refine N_then ?_
            refine C_block ?_
            refine C_loop (fun (x : Int) => (S, [(101, .blk g_1 [.int .i64 c.gain, .int .u8 c.info.seq, .int .u8 c.info.shape, .int .i64 c.info.max, .slice Ac4 c.info.groups.length cc4, .slice Ac5 c.sections.length cc5, .slice Ac6 c.steps.length cc6, .slice Ac7 c.tns.length cc7, .slice Ac8 c.lines.length cc8] 37)], [(0, .agg #[.int .i64 c.gain, .int .u8 c.info.seq, .int .u8 c.info.shape, .int .i64 c.info.max, .slice Ac4 c.info.groups.length cc4, .slice Ac5 c.sections.length cc5, .slice Ac6 c.steps.length cc6, .slice Ac7 c.tns.length cc7, .slice Ac8 c.lines.length cc8]), (1, .pointer (some ⟨g_1, 0, none⟩)), (7, .pointer (some ⟨g_1, 1, none⟩)), (8, .pointer (some ⟨g_1, 4, none⟩)), (9, .slice Ac4 c.info.groups.length cc4), (10, .int .i64 (c.info.groups.length : Int)), (11, .bool (decide (40 < (c.info.groups.length : Int)))), (12, .bool (decide (40 < (c.info.groups.length : Int)))), (13, .pointer (some ⟨g_1, 5, none⟩)), (14, .slice Ac5 c.sections.length cc5), (15, .int .i64 (c.sections.length : Int)), (16, .bool (decide (40 < (c.sections.length : Int)))), (17, .bool (decide (40 < (c.sections.length : Int)))), (18, .bool (decide (40 < (c.sections.length : Int)))), (19, .pointer (some ⟨g_1, 6, none⟩)), (20, .slice Ac6 c.steps.length cc6), (21, .int .i64 (c.steps.length : Int)), (22, .bool (decide (40 < (c.steps.length : Int)))), (23, .bool (decide (40 < (c.steps.length : Int)))), (24, .bool (decide (40 < (c.steps.length : Int)))), (25, .pointer (some ⟨g_1, 7, none⟩)), (26, .slice Ac7 c.tns.length cc7), (27, .int .i64 (c.tns.length : Int)), (28, .bool (decide (40 < (c.tns.length : Int)))), (29, .bool (decide (40 < (c.tns.length : Int)))), (30, .bool (decide (40 < (c.tns.length : Int)))), (31, .pointer (some ⟨g_1, 8, none⟩)), (32, .slice Ac8 c.lines.length cc8), (33, .int .i64 (c.lines.length : Int)), (34, .bool (decide (2000 < (c.lines.length : Int)))), (35, .bool (decide (2000 < (c.lines.length : Int)))), (3, .int .i64 x)])) (fun (x : Int) => 0 ≤ x ∧ x ≤ c.sections.length ∧ AllI lenL c.sections x) (fun (x : Int) => (c.sections.length - x).toNat) (0) ⟨by omega, by omega, AllI.zero⟩ rfl ⟨rfl, trivial⟩ ⟨rfl, rfl, rfl, rfl, rfl, rfl, rfl, rfl, rfl, rfl, rfl, rfl, rfl, rfl, rfl, rfl, rfl, rfl, rfl, rfl, rfl, rfl, rfl, rfl, rfl, rfl, rfl, rfl, rfl, rfl, rfl, rfl, trivial⟩ ?_
            rintro i ⟨q0, q1, q2⟩
            dsimp only
            refine C_seq ?_
            refine C_seq ?_
            refine C_region rfl ?_
            refine T_pv rfl (pv_move rfl) ?_
            refine T_pv rfl (pv_fieldAddr rfl fl_37_2) ?_
            refine T_pv rfl (pv_load rfl ag33 (Cell.blk 101 rfl rfl)) ?_
            refine T_pv rfl (pv_len rfl el33) ?_
            refine T_pv rfl (pv_lss rfl rfl) ?_
            refine T_nil ?_
            refine N_then ?_
            refine C_cond rfl (fun hb_18 => ?_) (fun hb_18 => ?_)
            · -- decide (i < (c.sections.length : Int)) = true
              have hx_19 := of_decide_eq_true hb_18
              refine C_skip ?_
              refine N_then ?_
              refine C_seq ?_
              refine C_block ?_
              refine C_seq ?_
              refine C_region rfl ?_
              refine T_pv rfl (pv_fieldAddr rfl fl_37_2) ?_
              refine T_pv rfl (pv_load rfl ag33 (Cell.blk 101 rfl rfl)) ?_
              refine T_pv rfl (pv_move rfl) ?_
              obtain ⟨us_20, hk_21, he_22⟩ := RdA.elt hc5 (i := i) (by omega) (by omega)
              obtain ⟨A_23, c_24, rfl, h_25⟩ := hk_21
              have hb_26 := h_25.bd
              refine T_pv rfl (pv_idx hc5 rfl rfl el33 sz50 (by omega) (by omega)) ?_
              refine T_pv rfl (pv_load rfl ag50 ((he_22 _ _ (ImLe.refl _)).zero rfl)) ?_
              refine T_pv rfl (pv_len rfl el50) ?_
              refine T_pv rfl (pv_gtr rfl rfl) ?_
              refine T_nil ?_
              refine N_then ?_
              refine C_cond rfl (fun hb_27 => ?_) (fun hb_27 => ?_)
              · -- decide (100 < ((c.sections.getD (i).toNat default).length : Int)) = true
                have hx_28 := of_decide_eq_true hb_27
                refine C_seq ?_
                refine C_region rfl ?_
                refine T_pv rfl (pv_assign rfl) ?_
                refine T_nil ?_
                refine N_then ?_
                refine C_ret0 ?_
                refine R_block ?_
                refine R_then ?_
                refine R_loop ?_
                refine R_block ?_
                refine R_then ?_
                -- ret 5: .bool true
                refine Q_ret (vs := [.bool true]) ⟨rfl, trivial⟩ (L' := []) [] trivial (by simp) (by decide) (⟨true, rfl, rfl, rfl, ?_⟩)
                · exact fun h => by cases h
              · -- decide (100 < ((c.sections.getD (i).toNat default).length : Int)) = false
                have hx_29 := of_decide_eq_false hb_27
                refine C_skip ?_
                refine N_block ?_
                refine N_then ?_
                refine C_region rfl ?_
                refine T_pv rfl (pv_move rfl) ?_
                have hr_30 : InR .i64 (i + 1) := inR_i64 (by omega) (by omega)
                refine T_pv rfl (pv_add rfl rfl hr_30) ?_
                refine T_pv rfl (pv_assign rfl) ?_
                refine T_nil ?_
                refine N_next (i + 1) ⟨by omega, by omega, AllI.next q2 (show _ ≤ _ by omega)⟩ (by first | omega | (dsimp only; omega)) rfl ⟨rfl, trivial⟩ ⟨rfl, rfl, rfl, rfl, rfl, rfl, rfl, rfl, rfl, rfl, rfl, rfl, rfl, rfl, rfl, rfl, rfl, rfl, rfl, rfl, rfl, rfl, rfl, rfl, rfl, rfl, rfl, rfl, rfl, rfl, rfl, rfl, trivial⟩
            · -- decide (i < (c.sections.length : Int)) = false
              have hx_31 := of_decide_eq_false hb_18
              refine C_exit ?_
              refine X_then ?_
              refine X_loop ?_
              refine X_block ?_
              refine N_then ?_
              refine C_seq ?_
              refine C_seq ?_
              refine C_region rfl ?_
              refine T_pv rfl (pv_assign rfl) ?_
              refine T_nil ?_
              refine N_then ?_
              refine C_block ?_
              refine C_loop (fun (x : Int) => (S, [(101, .blk g_1 [.int .i64 c.gain, .int .u8 c.info.seq, .int .u8 c.info.shape, .int .i64 c.info.max, .slice Ac4 c.info.groups.length cc4, .slice Ac5 c.sections.length cc5, .slice Ac6 c.steps.length cc6, .slice Ac7 c.tns.length cc7, .slice Ac8 c.lines.length cc8] 37)], [(0, .agg #[.int .i64 c.gain, .int .u8 c.info.seq, .int .u8 c.info.shape, .int .i64 c.info.max, .slice Ac4 c.info.groups.length cc4, .slice Ac5 c.sections.length cc5, .slice Ac6 c.steps.length cc6, .slice Ac7 c.tns.length cc7, .slice Ac8 c.lines.length cc8]), (1, .pointer (some ⟨g_1, 0, none⟩)), (7, .pointer (some ⟨g_1, 1, none⟩)), (8, .pointer (some ⟨g_1, 4, none⟩)), (9, .slice Ac4 c.info.groups.length cc4), (10, .int .i64 (c.info.groups.length : Int)), (11, .bool (decide (40 < (c.info.groups.length : Int)))), (12, .bool (decide (40 < (c.info.groups.length : Int)))), (13, .pointer (some ⟨g_1, 5, none⟩)), (14, .slice Ac5 c.sections.length cc5), (15, .int .i64 (c.sections.length : Int)), (16, .bool (decide (40 < (c.sections.length : Int)))), (17, .bool (decide (40 < (c.sections.length : Int)))), (18, .bool (decide (40 < (c.sections.length : Int)))), (19, .pointer (some ⟨g_1, 6, none⟩)), (20, .slice Ac6 c.steps.length cc6), (21, .int .i64 (c.steps.length : Int)), (22, .bool (decide (40 < (c.steps.length : Int)))), (23, .bool (decide (40 < (c.steps.length : Int)))), (24, .bool (decide (40 < (c.steps.length : Int)))), (25, .pointer (some ⟨g_1, 7, none⟩)), (26, .slice Ac7 c.tns.length cc7), (27, .int .i64 (c.tns.length : Int)), (28, .bool (decide (40 < (c.tns.length : Int)))), (29, .bool (decide (40 < (c.tns.length : Int)))), (30, .bool (decide (40 < (c.tns.length : Int)))), (31, .pointer (some ⟨g_1, 8, none⟩)), (32, .slice Ac8 c.lines.length cc8), (33, .int .i64 (c.lines.length : Int)), (34, .bool (decide (2000 < (c.lines.length : Int)))), (35, .bool (decide (2000 < (c.lines.length : Int)))), (3, .int .i64 i), (36, .int .i64 i), (37, .pointer (some ⟨g_1, 5, none⟩)), (38, .slice Ac5 c.sections.length cc5), (39, .int .i64 (c.sections.length : Int)), (40, .bool (decide (i < (c.sections.length : Int)))), (4, .int .i64 x)])) (fun (x : Int) => 0 ≤ x ∧ x ≤ c.steps.length ∧ AllI lenL c.steps x) (fun (x : Int) => (c.steps.length - x).toNat) (0) ⟨by omega, by omega, AllI.zero⟩ rfl ⟨rfl, trivial⟩ ⟨rfl, rfl, rfl, rfl, rfl, rfl, rfl, rfl, rfl, rfl, rfl, rfl, rfl, rfl, rfl, rfl, rfl, rfl, rfl, rfl, rfl, rfl, rfl, rfl, rfl, rfl, rfl, rfl, rfl, rfl, rfl, rfl, rfl, rfl, rfl, rfl, rfl, rfl, trivial⟩ ?_
              rintro k ⟨s0, s1, s2⟩
              dsimp only
              refine C_seq ?_
              refine C_seq ?_
              refine C_region rfl ?_
              refine T_pv rfl (pv_move rfl) ?_
              refine T_pv rfl (pv_fieldAddr rfl fl_37_3) ?_
              refine T_pv rfl (pv_load rfl ag34 (Cell.blk 101 rfl rfl)) ?_
              refine T_pv rfl (pv_len rfl el34) ?_
              refine T_pv rfl (pv_lss rfl rfl) ?_
              refine T_nil ?_
              refine N_then ?_
              refine C_cond rfl (fun hb_33 => ?_) (fun hb_33 => ?_)
              · -- decide (k < (c.steps.length : Int)) = true
                have hx_34 := of_decide_eq_true hb_33
                refine C_skip ?_
                refine N_then ?_
                refine C_seq ?_
                refine C_block ?_
                refine C_seq ?_
                refine C_region rfl ?_
                refine T_pv rfl (pv_fieldAddr rfl fl_37_3) ?_
                refine T_pv rfl (pv_load rfl ag34 (Cell.blk 101 rfl rfl)) ?_
                refine T_pv rfl (pv_move rfl) ?_
                obtain ⟨us_35, hk_36, he_37⟩ := RdA.elt hc6 (i := k) (by omega) (by omega)
                obtain ⟨A_38, c_39, rfl, h_40⟩ := hk_36
                have hb_41 := h_40.bd
                refine T_pv rfl (pv_idx hc6 rfl rfl el34 sz30 (by omega) (by omega)) ?_
                refine T_pv rfl (pv_load rfl ag30 ((he_37 _ _ (ImLe.refl _)).zero rfl)) ?_
                refine T_pv rfl (pv_len rfl el30) ?_
                refine T_pv rfl (pv_gtr rfl rfl) ?_
                refine T_nil ?_
                refine N_then ?_
                refine C_cond rfl (fun hb_42 => ?_) (fun hb_42 => ?_)
                · -- decide (200 < ((c.steps.getD (k).toNat default).length : Int)) = true
                  have hx_43 := of_decide_eq_true hb_42
                  refine C_seq ?_
                  refine C_region rfl ?_
                  refine T_pv rfl (pv_assign rfl) ?_
                  refine T_nil ?_
                  refine N_then ?_
                  refine C_ret0 ?_
                  refine R_block ?_
                  refine R_then ?_
                  refine R_loop ?_
                  refine R_block ?_
                  refine R_then ?_
                  -- ret 6: .bool true
                  refine Q_ret (vs := [.bool true]) ⟨rfl, trivial⟩ (L' := []) [] trivial (by simp) (by decide) (⟨true, rfl, rfl, rfl, ?_⟩)
                  · exact fun h => by cases h
                · -- decide (200 < ((c.steps.getD (k).toNat default).length : Int)) = false
                  have hx_44 := of_decide_eq_false hb_42
                  refine C_skip ?_
                  refine N_block ?_
                  refine N_then ?_
                  refine C_region rfl ?_
                  refine T_pv rfl (pv_move rfl) ?_
                  have hr_45 : InR .i64 (k + 1) := inR_i64 (by omega) (by omega)
                  refine T_pv rfl (pv_add rfl rfl hr_45) ?_
                  refine T_pv rfl (pv_assign rfl) ?_
                  refine T_nil ?_
                  refine N_next (k + 1) ⟨by omega, by omega, AllI.next s2 (show _ ≤ _ by omega)⟩ (by first | omega | (dsimp only; omega)) rfl ⟨rfl, trivial⟩ ⟨rfl, rfl, rfl, rfl, rfl, rfl, rfl, rfl, rfl, rfl, rfl, rfl, rfl, rfl, rfl, rfl, rfl, rfl, rfl, rfl, rfl, rfl, rfl, rfl, rfl, rfl, rfl, rfl, rfl, rfl, rfl, rfl, rfl, rfl, rfl, rfl, rfl, rfl, trivial⟩
              · -- decide (k < (c.steps.length : Int)) = false
                have hx_46 := of_decide_eq_false hb_33
                refine C_exit ?_
                refine X_then ?_
                refine X_loop ?_
                refine X_block ?_
                refine N_then ?_
                refine C_seq ?_
                refine C_seq ?_
                refine C_region rfl ?_
                refine T_pv rfl (pv_assign rfl) ?_
                refine T_nil ?_
                refine N_then ?_
                refine C_block ?_
                refine C_loop (fun (x : Int) => (S, [(101, .blk g_1 [.int .i64 c.gain, .int .u8 c.info.seq, .int .u8 c.info.shape, .int .i64 c.info.max, .slice Ac4 c.info.groups.length cc4, .slice Ac5 c.sections.length cc5, .slice Ac6 c.steps.length cc6, .slice Ac7 c.tns.length cc7, .slice Ac8 c.lines.length cc8] 37)], [(0, .agg #[.int .i64 c.gain, .int .u8 c.info.seq, .int .u8 c.info.shape, .int .i64 c.info.max, .slice Ac4 c.info.groups.length cc4, .slice Ac5 c.sections.length cc5, .slice Ac6 c.steps.length cc6, .slice Ac7 c.tns.length cc7, .slice Ac8 c.lines.length cc8]), (1, .pointer (some ⟨g_1, 0, none⟩)), (7, .pointer (some ⟨g_1, 1, none⟩)), (8, .pointer (some ⟨g_1, 4, none⟩)), (9, .slice Ac4 c.info.groups.length cc4), (10, .int .i64 (c.info.groups.length : Int)), (11, .bool (decide (40 < (c.info.groups.length : Int)))), (12, .bool (decide (40 < (c.info.groups.length : Int)))), (13, .pointer (some ⟨g_1, 5, none⟩)), (14, .slice Ac5 c.sections.length cc5), (15, .int .i64 (c.sections.length : Int)), (16, .bool (decide (40 < (c.sections.length : Int)))), (17, .bool (decide (40 < (c.sections.length : Int)))), (18, .bool (decide (40 < (c.sections.length : Int)))), (19, .pointer (some ⟨g_1, 6, none⟩)), (20, .slice Ac6 c.steps.length cc6), (21, .int .i64 (c.steps.length : Int)), (22, .bool (decide (40 < (c.steps.length : Int)))), (23, .bool (decide (40 < (c.steps.length : Int)))), (24, .bool (decide (40 < (c.steps.length : Int)))), (25, .pointer (some ⟨g_1, 7, none⟩)), (26, .slice Ac7 c.tns.length cc7), (27, .int .i64 (c.tns.length : Int)), (28, .bool (decide (40 < (c.tns.length : Int)))), (29, .bool (decide (40 < (c.tns.length : Int)))), (30, .bool (decide (40 < (c.tns.length : Int)))), (31, .pointer (some ⟨g_1, 8, none⟩)), (32, .slice Ac8 c.lines.length cc8), (33, .int .i64 (c.lines.length : Int)), (34, .bool (decide (2000 < (c.lines.length : Int)))), (35, .bool (decide (2000 < (c.lines.length : Int)))), (3, .int .i64 i), (36, .int .i64 i), (37, .pointer (some ⟨g_1, 5, none⟩)), (38, .slice Ac5 c.sections.length cc5), (39, .int .i64 (c.sections.length : Int)), (40, .bool (decide (i < (c.sections.length : Int)))), (4, .int .i64 k), (50, .int .i64 k), (51, .pointer (some ⟨g_1, 6, none⟩)), (52, .slice Ac6 c.steps.length cc6), (53, .int .i64 (c.steps.length : Int)), (54, .bool (decide (k < (c.steps.length : Int)))), (5, .int .i64 x)])) (fun (x : Int) => 0 ≤ x ∧ x ≤ c.tns.length ∧ AllI (fun t : List GFilter => t.length ≤ 2000 ∧ AllL (fun f : GFilter => f.coefs.length ≤ 2000) t) c.tns x) (fun (x : Int) => (c.tns.length - x).toNat) (0) ⟨by omega, by omega, AllI.zero⟩ rfl ⟨rfl, trivial⟩ ⟨rfl, rfl, rfl, rfl, rfl, rfl, rfl, rfl, rfl, rfl, rfl, rfl, rfl, rfl, rfl, rfl, rfl, rfl, rfl, rfl, rfl, rfl, rfl, rfl, rfl, rfl, rfl, rfl, rfl, rfl, rfl, rfl, rfl, rfl, rfl, rfl, rfl, rfl, rfl, rfl, rfl, rfl, rfl, rfl, trivial⟩ ?_
                rintro u ⟨t0, t1, t2⟩
                dsimp only
                refine C_seq ?_
                refine C_seq ?_
                refine C_region rfl ?_
                refine T_pv rfl (pv_move rfl) ?_
                refine T_pv rfl (pv_fieldAddr rfl fl_37_4) ?_
                refine T_pv rfl (pv_load rfl ag35 (Cell.blk 101 rfl rfl)) ?_
                refine T_pv rfl (pv_len rfl el35) ?_
                refine T_pv rfl (pv_lss rfl rfl) ?_
                refine T_nil ?_
                refine N_then ?_
                refine C_cond rfl (fun hb_48 => ?_) (fun hb_48 => ?_)
                · -- decide (u < (c.tns.length : Int)) = true
                  have hx_49 := of_decide_eq_true hb_48
                  refine C_skip ?_
                  refine N_then ?_
                  refine C_seq ?_
                  refine C_block ?_
                  refine C_seq ?_
                  refine C_seq ?_
                  refine C_region rfl ?_
                  refine T_pv rfl (pv_fieldAddr rfl fl_37_4) ?_
                  refine T_pv rfl (pv_load rfl ag35 (Cell.blk 101 rfl rfl)) ?_
                  refine T_pv rfl (pv_move rfl) ?_
                  obtain ⟨us_50, hk_51, he_52⟩ := RdA.elt hc7 (i := u) (by omega) (by omega)
                  obtain ⟨A_53, c_54, rfl, h_55⟩ := hk_51
                  have hb_56 := h_55.bd
                  refine T_pv rfl (pv_idx hc7 rfl rfl el35 sz51 (by omega) (by omega)) ?_
                  refine T_pv rfl (pv_load rfl ag51 ((he_52 _ _ (ImLe.refl _)).zero rfl)) ?_
                  refine T_pv rfl (pv_len rfl el51) ?_
                  refine T_pv rfl (pv_gtr rfl rfl) ?_
                  refine T_nil ?_
                  refine N_then ?_
                  refine C_cond rfl (fun hb_57 => ?_) (fun hb_57 => ?_)
                  · -- decide (20 < ((c.tns.getD (u).toNat default).length : Int)) = true
                    have hx_58 := of_decide_eq_true hb_57
                    refine C_seq ?_
                    refine C_region rfl ?_
                    refine T_pv rfl (pv_assign rfl) ?_
                    refine T_nil ?_
                    refine N_then ?_
                    refine C_ret0 ?_
                    refine R_then ?_
                    refine R_block ?_
                    refine R_then ?_
                    refine R_loop ?_
                    refine R_block ?_
                    refine R_then ?_
                    -- ret 7: .bool true
                    refine Q_ret (vs := [.bool true]) ⟨rfl, trivial⟩ (L' := []) [] trivial (by simp) (by decide) (⟨true, rfl, rfl, rfl, ?_⟩)
                    · exact fun h => by cases h
                  · -- decide (20 < ((c.tns.getD (u).toNat default).length : Int)) = false
                    have hx_59 := of_decide_eq_false hb_57
                    refine C_skip ?_
                    refine N_then ?_
                    refine C_seq ?_
                    refine C_region rfl ?_
                    refine T_pv rfl (pv_assign rfl) ?_
                    refine T_nil ?_
                    refine N_then ?_
                    refine C_block ?_
                    refine C_loop (fun (x : Int) => (S, [(101, .blk g_1 [.int .i64 c.gain, .int .u8 c.info.seq, .int .u8 c.info.shape, .int .i64 c.info.max, .slice Ac4 c.info.groups.length cc4, .slice Ac5 c.sections.length cc5, .slice Ac6 c.steps.length cc6, .slice Ac7 c.tns.length cc7, .slice Ac8 c.lines.length cc8] 37)], [(0, .agg #[.int .i64 c.gain, .int .u8 c.info.seq, .int .u8 c.info.shape, .int .i64 c.info.max, .slice Ac4 c.info.groups.length cc4, .slice Ac5 c.sections.length cc5, .slice Ac6 c.steps.length cc6, .slice Ac7 c.tns.length cc7, .slice Ac8 c.lines.length cc8]), (1, .pointer (some ⟨g_1, 0, none⟩)), (7, .pointer (some ⟨g_1, 1, none⟩)), (8, .pointer (some ⟨g_1, 4, none⟩)), (9, .slice Ac4 c.info.groups.length cc4), (10, .int .i64 (c.info.groups.length : Int)), (11, .bool (decide (40 < (c.info.groups.length : Int)))), (12, .bool (decide (40 < (c.info.groups.length : Int)))), (13, .pointer (some ⟨g_1, 5, none⟩)), (14, .slice Ac5 c.sections.length cc5), (15, .int .i64 (c.sections.length : Int)), (16, .bool (decide (40 < (c.sections.length : Int)))), (17, .bool (decide (40 < (c.sections.length : Int)))), (18, .bool (decide (40 < (c.sections.length : Int)))), (19, .pointer (some ⟨g_1, 6, none⟩)), (20, .slice Ac6 c.steps.length cc6), (21, .int .i64 (c.steps.length : Int)), (22, .bool (decide (40 < (c.steps.length : Int)))), (23, .bool (decide (40 < (c.steps.length : Int)))), (24, .bool (decide (40 < (c.steps.length : Int)))), (25, .pointer (some ⟨g_1, 7, none⟩)), (26, .slice Ac7 c.tns.length cc7), (27, .int .i64 (c.tns.length : Int)), (28, .bool (decide (40 < (c.tns.length : Int)))), (29, .bool (decide (40 < (c.tns.length : Int)))), (30, .bool (decide (40 < (c.tns.length : Int)))), (31, .pointer (some ⟨g_1, 8, none⟩)), (32, .slice Ac8 c.lines.length cc8), (33, .int .i64 (c.lines.length : Int)), (34, .bool (decide (2000 < (c.lines.length : Int)))), (35, .bool (decide (2000 < (c.lines.length : Int)))), (3, .int .i64 i), (36, .int .i64 i), (37, .pointer (some ⟨g_1, 5, none⟩)), (38, .slice Ac5 c.sections.length cc5), (39, .int .i64 (c.sections.length : Int)), (40, .bool (decide (i < (c.sections.length : Int)))), (4, .int .i64 k), (50, .int .i64 k), (51, .pointer (some ⟨g_1, 6, none⟩)), (52, .slice Ac6 c.steps.length cc6), (53, .int .i64 (c.steps.length : Int)), (54, .bool (decide (k < (c.steps.length : Int)))), (5, .int .i64 u), (64, .int .i64 u), (65, .pointer (some ⟨g_1, 7, none⟩)), (66, .slice Ac7 c.tns.length cc7), (67, .int .i64 (c.tns.length : Int)), (68, .bool (decide (u < (c.tns.length : Int)))), (71, .pointer (some ⟨g_1, 7, none⟩)), (72, .slice Ac7 c.tns.length cc7), (73, .int .i64 u), (74, .pointer (some (adr Ac7 ((u).toNat * 1)))), (75, .slice A_53 ((c.tns.getD (u).toNat default).length) c_54), (76, .int .i64 ((c.tns.getD (u).toNat default).length : Int)), (77, .bool (decide (20 < ((c.tns.getD (u).toNat default).length : Int)))), (6, .int .i64 x)])) (fun (x : Int) => 0 ≤ x ∧ x ≤ (c.tns.getD (u).toNat default).length ∧ AllI (fun f : GFilter => f.coefs.length ≤ 2000) (c.tns.getD (u).toNat default) x) (fun (x : Int) => ((c.tns.getD (u).toNat default).length - x).toNat) (0) ⟨by omega, by omega, AllI.zero⟩ rfl ⟨rfl, trivial⟩ ⟨rfl, rfl, rfl, rfl, rfl, rfl, rfl, rfl, rfl, rfl, rfl, rfl, rfl, rfl, rfl, rfl, rfl, rfl, rfl, rfl, rfl, rfl, rfl, rfl, rfl, rfl, rfl, rfl, rfl, rfl, rfl, rfl, rfl, rfl, rfl, rfl, rfl, rfl, rfl, rfl, rfl, rfl, rfl, rfl, rfl, rfl, rfl, rfl, rfl, rfl, rfl, rfl, rfl, rfl, rfl, rfl, rfl, trivial⟩ ?_
                    rintro j ⟨v0, v1, v2⟩
                    dsimp only
                    refine C_seq ?_
                    refine C_seq ?_
                    refine C_region rfl ?_
                    refine T_pv rfl (pv_move rfl) ?_
                    refine T_pv rfl (pv_fieldAddr rfl fl_37_4) ?_
                    refine T_pv rfl (pv_load rfl ag35 (Cell.blk 101 rfl rfl)) ?_
                    refine T_pv rfl (pv_move rfl) ?_
                    refine T_pv rfl (pv_idx hc7 rfl rfl el35 sz51 (by omega) (by omega)) ?_
                    refine T_pv rfl (pv_load rfl ag51 ((he_52 _ _ (ImLe.refl _)).zero rfl)) ?_
                    refine T_pv rfl (pv_len rfl el51) ?_
                    refine T_pv rfl (pv_lss rfl rfl) ?_
                    refine T_nil ?_
                    refine N_then ?_
                    refine C_cond rfl (fun hb_61 => ?_) (fun hb_61 => ?_)
                    · -- decide (j < ((c.tns.getD (u).toNat default).length : Int)) = true
                      have hx_62 := of_decide_eq_true hb_61
                      refine C_skip ?_
                      refine N_then ?_
                      refine C_seq ?_
                      refine C_block ?_
                      refine C_seq ?_
                      refine C_region rfl ?_
                      refine T_pv rfl (pv_fieldAddr rfl fl_37_4) ?_
                      refine T_pv rfl (pv_load rfl ag35 (Cell.blk 101 rfl rfl)) ?_
                      refine T_pv rfl (pv_move rfl) ?_
                      refine T_pv rfl (pv_idx hc7 rfl rfl el35 sz51 (by omega) (by omega)) ?_
                      refine T_pv rfl (pv_load rfl ag51 ((he_52 _ _ (ImLe.refl _)).zero rfl)) ?_
                      refine T_pv rfl (pv_move rfl) ?_
                      obtain ⟨us_63, hk_64, he_65⟩ := RdA.elt h_55 (i := j) (by omega) (by omega)
                      obtain ⟨A_66, c_67, rfl, h_68, h_69, h_70⟩ := hk_64
                      have hq_71 := InR.i64 h_68
                      have hq_72 := InR.i64 h_69
                      have hb_73 := h_70.bd
                      refine T_pv rfl (pv_idx h_55 rfl rfl el51 sz53 (by omega) (by omega)) ?_
                      refine T_pv rfl (pv_fieldAddr rfl fl_53_4) ?_
                      refine T_pv rfl (pv_load rfl ag30 ((he_65 _ _ (ImLe.refl _)).at_ 4 rfl)) ?_
                      refine T_pv rfl (pv_len rfl el30) ?_
                      refine T_pv rfl (pv_gtr rfl rfl) ?_
                      refine T_nil ?_
                      refine N_then ?_
                      refine C_cond rfl (fun hb_74 => ?_) (fun hb_74 => ?_)
                      · -- decide (100 < ((((c.tns.getD (u).toNat default).getD (j).toNat default).coefs).length : Int)) = true
                        have hx_75 := of_decide_eq_true hb_74
                        refine C_seq ?_
                        refine C_region rfl ?_
                        refine T_pv rfl (pv_assign rfl) ?_
                        refine T_nil ?_
                        refine N_then ?_
                        refine C_ret0 ?_
                        refine R_block ?_
                        refine R_then ?_
                        refine R_loop ?_
                        refine R_block ?_
                        refine R_block ?_
                        refine R_then ?_
                        refine R_loop ?_
                        refine R_block ?_
                        refine R_then ?_
                        -- ret 8: .bool true
                        refine Q_ret (vs := [.bool true]) ⟨rfl, trivial⟩ (L' := []) [] trivial (by simp) (by decide) (⟨true, rfl, rfl, rfl, ?_⟩)
                        · exact fun h => by cases h
                      · -- decide (100 < ((((c.tns.getD (u).toNat default).getD (j).toNat default).coefs).length : Int)) = false
                        have hx_76 := of_decide_eq_false hb_74
                        refine C_skip ?_
                        refine N_block ?_
                        refine N_then ?_
                        refine C_region rfl ?_
                        refine T_pv rfl (pv_move rfl) ?_
                        have hr_77 : InR .i64 (j + 1) := inR_i64 (by omega) (by omega)
                        refine T_pv rfl (pv_add rfl rfl hr_77) ?_
                        refine T_pv rfl (pv_assign rfl) ?_
                        refine T_nil ?_
                        refine N_next (j + 1) ⟨by omega, by omega, AllI.next v2 (show _ ≤ _ by omega)⟩ (by first | omega | (dsimp only; omega)) rfl ⟨rfl, trivial⟩ ⟨rfl, rfl, rfl, rfl, rfl, rfl, rfl, rfl, rfl, rfl, rfl, rfl, rfl, rfl, rfl, rfl, rfl, rfl, rfl, rfl, rfl, rfl, rfl, rfl, rfl, rfl, rfl, rfl, rfl, rfl, rfl, rfl, rfl, rfl, rfl, rfl, rfl, rfl, rfl, rfl, rfl, rfl, rfl, rfl, rfl, rfl, rfl, rfl, rfl, rfl, rfl, rfl, rfl, rfl, rfl, rfl, rfl, trivial⟩
                    · -- decide (j < ((c.tns.getD (u).toNat default).length : Int)) = false
                      have hx_78 := of_decide_eq_false hb_61
                      refine C_exit ?_
                      refine X_then ?_
                      refine X_loop ?_
                      refine X_block ?_
                      refine N_block ?_
                      refine N_then ?_
                      refine C_region rfl ?_
                      refine T_pv rfl (pv_move rfl) ?_
                      have hr_79 : InR .i64 (u + 1) := inR_i64 (by omega) (by omega)
                      refine T_pv rfl (pv_add rfl rfl hr_79) ?_
                      refine T_pv rfl (pv_assign rfl) ?_
                      refine T_nil ?_
                      refine N_next (u + 1) ⟨by omega, by omega, AllI.next t2 ⟨by omega, AllI.all v2 (by omega)⟩⟩ (by first | omega | (dsimp only; omega)) rfl ⟨rfl, trivial⟩ ⟨rfl, rfl, rfl, rfl, rfl, rfl, rfl, rfl, rfl, rfl, rfl, rfl, rfl, rfl, rfl, rfl, rfl, rfl, rfl, rfl, rfl, rfl, rfl, rfl, rfl, rfl, rfl, rfl, rfl, rfl, rfl, rfl, rfl, rfl, rfl, rfl, rfl, rfl, rfl, rfl, rfl, rfl, rfl, rfl, trivial⟩
                · -- decide (u < (c.tns.length : Int)) = false
                  have hx_80 := of_decide_eq_false hb_48
                  refine C_exit ?_
                  refine X_then ?_
                  refine X_loop ?_
                  refine X_block ?_
                  refine N_then ?_
                  refine C_seq ?_
                  refine C_region rfl ?_
                  refine T_pv rfl (pv_assign rfl) ?_
                  refine T_nil ?_
                  refine N_then ?_
                  refine C_ret0 ?_
                  -- ret 9: .bool false
                  refine Q_ret (vs := [.bool false]) ⟨rfl, trivial⟩ (L' := []) [] trivial (by simp) (by decide) (⟨false, rfl, rfl, rfl, ?_⟩)
                  · exact fun _ => ⟨by omega, by omega, AllI.all q2 (by omega), by omega, AllI.all s2 (by omega), by omega, AllI.all t2 (by omega), by omega⟩

set_option maxRecDepth 100000 in
theorem f_r23_Great (S : Im) (f : GFrame) (Af0 : Option Addr) (cf0 : Nat) (hf0 : RdA kGChan S Af0 cf0 f.chans) (hf2 : InR .i64 f.mask) (Af3 : Option Addr) (cf3 : Nat) (hf3 : RdA (kSl kBool) S Af3 cf3 f.bands) (Af4 : Option Addr) (cf4 : Nat) (hf4 : RdA (kInt .u8) S Af4 cf4 f.fill) : Fn Try.prog 4 [.agg #[.slice Af0 f.chans.length cf0, .bool f.common, .int .i64 f.mask, .slice Af3 f.bands.length cf3, .slice Af4 f.fill.length cf4]] S [] fun v S' L' => ∃ (r0 : Bool), v = .bool r0 ∧ S = S' ∧ L' = [] ∧ (r0 = false → GFrame.small f) := by
  have hb_f0 := hf0.bd
  have hb_f2 := InR.i64 hf2
  have hb_f3 := hf3.bd
  have hb_f4 := hf4.bd
  refine Fn_intro 56 Try.func4 rfl rfl rfl fun w0 => ?_
  refine C_seq ?_
  refine C_region rfl ?_
  refine T_cons (op_box (cs := [.slice Af0 f.chans.length cf0, .bool f.common, .int .i64 f.mask, .slice Af3 f.bands.length cf3, .slice Af4 f.fill.length cf4]) (lt_of rfl) 101 rfl rfl fun g_1 => ?_)
  refine T_pv rfl (pv_assign rfl) ?_
  refine T_nil ?_
  refine N_then ?_
  refine C_seq ?_
  refine C_seq ?_
  refine C_region rfl ?_
  refine T_pv rfl (pv_assign rfl) ?_
  refine T_nil ?_
  refine N_then ?_
  refine C_block ?_
  refine C_loop (fun (x : Int) => (S, [(101, .blk g_1 [.slice Af0 f.chans.length cf0, .bool f.common, .int .i64 f.mask, .slice Af3 f.bands.length cf3, .slice Af4 f.fill.length cf4] 26)], [(0, .agg #[.slice Af0 f.chans.length cf0, .bool f.common, .int .i64 f.mask, .slice Af3 f.bands.length cf3, .slice Af4 f.fill.length cf4]), (1, .pointer (some ⟨g_1, 0, none⟩)), (3, .int .i64 x)])) (fun (x : Int) => 0 ≤ x ∧ x ≤ f.chans.length ∧ AllI GChan.small f.chans x) (fun (x : Int) => (f.chans.length - x).toNat) (0) ⟨by omega, by omega, AllI.zero⟩ rfl ⟨rfl, trivial⟩ ⟨rfl, rfl, rfl, trivial⟩ ?_
  rintro i ⟨q0, q1, q2⟩
  dsimp only
  refine C_seq ?_
  refine C_seq ?_
  refine C_region rfl ?_
  refine T_pv rfl (pv_move rfl) ?_
  refine T_pv rfl (pv_fieldAddr rfl fl_26_0) ?_
  refine T_pv rfl (pv_load rfl ag22 (Cell.blk 101 rfl rfl)) ?_
  refine T_pv rfl (pv_len rfl el22) ?_
  refine T_pv rfl (pv_lss rfl rfl) ?_
  refine T_pv rfl (pv_move rfl) ?_
  refine T_gs (dj := 10) rfl (fun hb_3 => ?_) (fun hb_3 => ?_)
  · -- decide (i < (f.chans.length : Int)) = true
    have hx_4 := of_decide_eq_true hb_3
    refine T_gy rfl rfl hb_3 rfl (pv_move rfl) ?_
    refine T_gy rfl rfl hb_3 rfl (pv_lss rfl rfl) ?_
    refine T_pv rfl (pv_pick_t rfl hb_3 rfl) ?_
    refine T_nil ?_
    refine N_then ?_
    refine C_cond rfl (fun hb_5 => ?_) (fun hb_5 => ?_)
    · -- decide (i < 10) = true
      have hx_6 := of_decide_eq_true hb_5
      refine C_skip ?_
      refine N_then ?_
      refine C_seq ?_
      refine C_block ?_
      refine C_seq ?_
      refine C_region rfl ?_
      refine T_pv rfl (pv_fieldAddr rfl fl_26_0) ?_
      refine T_pv rfl (pv_load rfl ag22 (Cell.blk 101 rfl rfl)) ?_
      refine T_pv rfl (pv_move rfl) ?_
      obtain ⟨us_7, hk_8, he_9⟩ := RdA.elt hf0 (i := i) (by omega) (by omega)
      obtain ⟨A_10, c_11, A_12, c_13, A_14, c_15, A_16, c_17, A_18, c_19, rfl, h_20, h_21, h_22, h_23, h_24, h_25, h_26, h_27, h_28⟩ := hk_8
      have hq_29 := InR.i64 h_20
      have hq_30 := InR.u8 h_21
      have hq_31 := InR.u8 h_22
      have hq_32 := InR.i64 h_23
      have hb_33 := h_24.bd
      have hb_34 := h_25.bd
      have hb_35 := h_26.bd
      have hb_36 := h_27.bd
      have hb_37 := h_28.bd
      refine T_pv rfl (pv_idx hf0 rfl rfl el22 sz37 (by omega) (by omega)) ?_
      refine T_pv rfl (pv_load_aggE (cs := [.int .i64 ((f.chans.getD (i).toNat default).gain), .int .u8 (((f.chans.getD (i).toNat default).info).seq), .int .u8 (((f.chans.getD (i).toNat default).info).shape), .int .i64 (((f.chans.getD (i).toNat default).info).max), .slice A_10 ((((f.chans.getD (i).toNat default).info).groups).length) c_11, .slice A_12 (((f.chans.getD (i).toNat default).sections).length) c_13, .slice A_14 (((f.chans.getD (i).toNat default).steps).length) c_15, .slice A_16 (((f.chans.getD (i).toNat default).tns).length) c_17, .slice A_18 (((f.chans.getD (i).toNat default).lines).length) c_19]) rfl ag37 sz37 (he_9 _ _ (ImLe.refl _))) ?_
      refine T_cons (op_call (fun _ h => by cases h; exact lt_of rfl) rfl rfl rfl en9 (f_r18_Great _ (f.chans.getD (i).toNat default) h_20 h_21 h_22 h_23 _ _ h_24 _ _ h_25 _ _ h_26 _ _ h_27 _ _ h_28) [] trivial (by simp) (by decide) ?_)
      rintro v_42 S_40 L_43 ⟨r_38, rfl, rfl, rfl, hf_39⟩ hle_41
      refine ⟨rfl, ?_⟩
      refine T_nil ?_
      refine N_then ?_
      refine C_cond rfl (fun hb_44 => ?_) (fun hb_44 => ?_)
      · -- r_38 = true
        refine C_seq ?_
        refine C_region rfl ?_
        refine T_pv rfl (pv_assign rfl) ?_
        refine T_nil ?_
        refine N_then ?_
        refine C_ret0 ?_
        refine R_block ?_
        refine R_then ?_
        refine R_loop ?_
        refine R_block ?_
        refine R_then ?_
        -- ret 0: .bool true
        refine Q_ret (vs := [.bool true]) ⟨rfl, trivial⟩ (L' := []) [] trivial (by simp) (by decide) (⟨true, rfl, rfl, rfl, ?_⟩)
        · first | exact (fun h => by cases h) | exact fun hr => by have := of_decide_eq_false hr; exact ⟨by omega, AllI.all q2 (by omega), by omega, AllI.all s2 (by omega), by omega⟩
      · -- r_38 = false
        refine C_skip ?_
        refine N_block ?_
        refine N_then ?_
        refine C_region rfl ?_
        refine T_pv rfl (pv_move rfl) ?_
        have hr_45 : InR .i64 (i + 1) := inR_i64 (by omega) (by omega)
        refine T_pv rfl (pv_add rfl rfl hr_45) ?_
        refine T_pv rfl (pv_assign rfl) ?_
        refine T_nil ?_
        refine N_next (i + 1) ⟨by omega, by omega, AllI.next q2 (hf_39 hb_44)⟩ (by first | omega | (dsimp only; omega)) rfl ⟨rfl, trivial⟩ ⟨rfl, rfl, rfl, trivial⟩
    · -- decide (i < 10) = false
      have hx_46 := of_decide_eq_false hb_5
      refine C_exit ?_
      refine X_then ?_
      refine X_loop ?_
      refine X_block ?_
      refine N_then ?_
      refine C_seq ?_
      refine C_seq ?_
      refine C_region rfl ?_
      refine T_pv rfl (pv_assign rfl) ?_
      refine T_nil ?_
      refine N_then ?_
      refine C_block ?_
      refine C_loop (fun (x : Int) => (S, [(101, .blk g_1 [.slice Af0 f.chans.length cf0, .bool f.common, .int .i64 f.mask, .slice Af3 f.bands.length cf3, .slice Af4 f.fill.length cf4] 26)], [(0, .agg #[.slice Af0 f.chans.length cf0, .bool f.common, .int .i64 f.mask, .slice Af3 f.bands.length cf3, .slice Af4 f.fill.length cf4]), (1, .pointer (some ⟨g_1, 0, none⟩)), (3, .int .i64 i), (5, .int .i64 i), (6, .pointer (some ⟨g_1, 0, none⟩)), (7, .slice Af0 f.chans.length cf0), (8, .int .i64 (f.chans.length : Int)), (9, .bool (decide (i < (f.chans.length : Int)))), (10, .bool (decide (i < (f.chans.length : Int)))), (11, .int .i64 i), (12, .bool (decide (i < 10))), (13, .bool (decide (i < 10))), (4, .int .i64 x)])) (fun (x : Int) => 0 ≤ x ∧ x ≤ f.bands.length ∧ AllI lenL f.bands x) (fun (x : Int) => (f.bands.length - x).toNat) (0) ⟨by omega, by omega, AllI.zero⟩ rfl ⟨rfl, trivial⟩ ⟨rfl, rfl, rfl, rfl, rfl, rfl, rfl, rfl, rfl, rfl, rfl, rfl, rfl, trivial⟩ ?_
      rintro k ⟨s0, s1, s2⟩
      dsimp only
      refine C_seq ?_
      refine C_seq ?_
      refine C_region rfl ?_
      refine T_pv rfl (pv_move rfl) ?_
      refine T_pv rfl (pv_fieldAddr rfl fl_26_3) ?_
      refine T_pv rfl (pv_load rfl ag23 (Cell.blk 101 rfl rfl)) ?_
      refine T_pv rfl (pv_len rfl el23) ?_
      refine T_pv rfl (pv_lss rfl rfl) ?_
      refine T_pv rfl (pv_move rfl) ?_
      refine T_gs (dj := 27) rfl (fun hb_48 => ?_) (fun hb_48 => ?_)
      · -- decide (k < (f.bands.length : Int)) = true
        have hx_49 := of_decide_eq_true hb_48
        refine T_gy rfl rfl hb_48 rfl (pv_move rfl) ?_
        refine T_gy rfl rfl hb_48 rfl (pv_lss rfl rfl) ?_
        refine T_pv rfl (pv_pick_t rfl hb_48 rfl) ?_
        refine T_nil ?_
        refine N_then ?_
        refine C_cond rfl (fun hb_50 => ?_) (fun hb_50 => ?_)
        · -- decide (k < 40) = true
          have hx_51 := of_decide_eq_true hb_50
          refine C_skip ?_
          refine N_then ?_
          refine C_seq ?_
          refine C_block ?_
          refine C_seq ?_
          refine C_region rfl ?_
          refine T_pv rfl (pv_fieldAddr rfl fl_26_3) ?_
          refine T_pv rfl (pv_load rfl ag23 (Cell.blk 101 rfl rfl)) ?_
          refine T_pv rfl (pv_move rfl) ?_
          obtain ⟨us_52, hk_53, he_54⟩ := RdA.elt hf3 (i := k) (by omega) (by omega)
          obtain ⟨A_55, c_56, rfl, h_57⟩ := hk_53
          have hb_58 := h_57.bd
          refine T_pv rfl (pv_idx hf3 rfl rfl el23 sz38 (by omega) (by omega)) ?_
          refine T_pv rfl (pv_load rfl ag38 ((he_54 _ _ (ImLe.refl _)).zero rfl)) ?_
          refine T_pv rfl (pv_len rfl el38) ?_
          refine T_pv rfl (pv_gtr rfl rfl) ?_
          refine T_nil ?_
          refine N_then ?_
          refine C_cond rfl (fun hb_59 => ?_) (fun hb_59 => ?_)
          · -- decide (200 < ((f.bands.getD (k).toNat default).length : Int)) = true
            have hx_60 := of_decide_eq_true hb_59
            refine C_seq ?_
            refine C_region rfl ?_
            refine T_pv rfl (pv_assign rfl) ?_
            refine T_nil ?_
            refine N_then ?_
            refine C_ret0 ?_
            refine R_block ?_
            refine R_then ?_
            refine R_loop ?_
            refine R_block ?_
            refine R_then ?_
            -- ret 1: .bool true
            refine Q_ret (vs := [.bool true]) ⟨rfl, trivial⟩ (L' := []) [] trivial (by simp) (by decide) (⟨true, rfl, rfl, rfl, ?_⟩)
            · first | exact (fun h => by cases h) | exact fun hr => by have := of_decide_eq_false hr; exact ⟨by omega, AllI.all q2 (by omega), by omega, AllI.all s2 (by omega), by omega⟩
          · -- decide (200 < ((f.bands.getD (k).toNat default).length : Int)) = false
            have hx_61 := of_decide_eq_false hb_59
            refine C_skip ?_
            refine N_block ?_
            refine N_then ?_
            refine C_region rfl ?_
            refine T_pv rfl (pv_move rfl) ?_
            have hr_62 : InR .i64 (k + 1) := inR_i64 (by omega) (by omega)
            refine T_pv rfl (pv_add rfl rfl hr_62) ?_
            refine T_pv rfl (pv_assign rfl) ?_
            refine T_nil ?_
            refine N_next (k + 1) ⟨by omega, by omega, AllI.next s2 (show _ ≤ _ by omega)⟩ (by first | omega | (dsimp only; omega)) rfl ⟨rfl, trivial⟩ ⟨rfl, rfl, rfl, rfl, rfl, rfl, rfl, rfl, rfl, rfl, rfl, rfl, rfl, trivial⟩
        · -- decide (k < 40) = false
          have hx_63 := of_decide_eq_false hb_50
          refine C_exit ?_
          refine X_then ?_
          refine X_loop ?_
          refine X_block ?_
          refine N_then ?_
          refine C_seq ?_
          refine C_region rfl ?_
          refine T_pv rfl (pv_fieldAddr rfl fl_26_0) ?_
          refine T_pv rfl (pv_load rfl ag22 (Cell.blk 101 rfl rfl)) ?_
          refine T_pv rfl (pv_len rfl el22) ?_
          refine T_pv rfl (pv_gtr rfl rfl) ?_
          refine T_pv rfl (pv_move rfl) ?_
          refine T_gs (dj := 44) rfl (fun hb_64 => ?_) (fun hb_64 => ?_)
          · -- decide (10 < (f.chans.length : Int)) = true
            have hx_65 := of_decide_eq_true hb_64
            refine T_gn rfl rfl hb_64 rfl ?_
            refine T_gn rfl rfl hb_64 rfl ?_
            refine T_gn rfl rfl hb_64 rfl ?_
            refine T_gn rfl rfl hb_64 rfl ?_
            refine T_pv rfl (pv_pick_t rfl hb_64 rfl) ?_
            refine T_pv rfl (pv_move rfl) ?_
            refine T_gn rfl rfl rfl rfl ?_
            refine T_gn rfl rfl rfl rfl ?_
            refine T_gn rfl rfl rfl rfl ?_
            refine T_gn rfl rfl rfl rfl ?_
            refine T_pv rfl (pv_pick_t rfl rfl rfl) ?_
            refine T_pv rfl (pv_assign rfl) ?_
            refine T_nil ?_
            refine N_then ?_
            refine C_ret0 ?_
            -- ret 2: .bool true
            refine Q_ret (vs := [.bool true]) ⟨rfl, trivial⟩ (L' := []) [] trivial (by simp) (by decide) (⟨true, rfl, rfl, rfl, ?_⟩)
            · first | exact (fun h => by cases h) | exact fun hr => by have := of_decide_eq_false hr; exact ⟨by omega, AllI.all q2 (by omega), by omega, AllI.all s2 (by omega), by omega⟩
          · -- decide (10 < (f.chans.length : Int)) = false
            have hx_66 := of_decide_eq_false hb_64
            refine T_gy rfl rfl hb_64 rfl (pv_fieldAddr rfl fl_26_3) ?_
            refine T_gy rfl rfl hb_64 rfl (pv_load rfl ag23 (Cell.blk 101 rfl rfl)) ?_
            refine T_gy rfl rfl hb_64 rfl (pv_len rfl el23) ?_
            refine T_gy rfl rfl hb_64 rfl (pv_gtr rfl rfl) ?_
            refine T_pv rfl (pv_pick_f rfl hb_64 rfl) ?_
            refine T_pv rfl (pv_move rfl) ?_
            refine T_gs (dj := 50) rfl (fun hb_67 => ?_) (fun hb_67 => ?_)
            · -- decide (40 < (f.bands.length : Int)) = true
              have hx_68 := of_decide_eq_true hb_67
              refine T_gn rfl rfl hb_67 rfl ?_
              refine T_gn rfl rfl hb_67 rfl ?_
              refine T_gn rfl rfl hb_67 rfl ?_
              refine T_gn rfl rfl hb_67 rfl ?_
              refine T_pv rfl (pv_pick_t rfl hb_67 rfl) ?_
              refine T_pv rfl (pv_assign rfl) ?_
              refine T_nil ?_
              refine N_then ?_
              refine C_ret0 ?_
              -- ret 3: .bool true
              refine Q_ret (vs := [.bool true]) ⟨rfl, trivial⟩ (L' := []) [] trivial (by simp) (by decide) (⟨true, rfl, rfl, rfl, ?_⟩)
              · first | exact (fun h => by cases h) | exact fun hr => by have := of_decide_eq_false hr; exact ⟨by omega, AllI.all q2 (by omega), by omega, AllI.all s2 (by omega), by omega⟩
            · -- decide (40 < (f.bands.length : Int)) = false
              have hx_69 := of_decide_eq_false hb_67
              refine T_gy rfl rfl hb_67 rfl (pv_fieldAddr rfl fl_26_4) ?_
              refine T_gy rfl rfl hb_67 rfl (pv_load rfl ag24 (Cell.blk 101 rfl rfl)) ?_
              refine T_gy rfl rfl hb_67 rfl (pv_len rfl el24) ?_
              refine T_gy rfl rfl hb_67 rfl (pv_gtr rfl rfl) ?_
              refine T_pv rfl (pv_pick_f rfl hb_67 rfl) ?_
              refine T_pv rfl (pv_assign rfl) ?_
              refine T_nil ?_
              refine N_then ?_
              refine C_ret0 ?_
              -- ret 4: .bool (decide (2000 < (f.fill.length : Int)))
              refine Q_ret (vs := [.bool (decide (2000 < (f.fill.length : Int)))]) ⟨rfl, trivial⟩ (L' := []) [] trivial (by simp) (by decide) (⟨decide (2000 < (f.fill.length : Int)), rfl, rfl, rfl, ?_⟩)
              · first | exact (fun h => by cases h) | exact fun hr => by have := of_decide_eq_false hr; exact ⟨by omega, AllI.all q2 (by omega), by omega, AllI.all s2 (by omega), by omega⟩
      · -- decide (k < (f.bands.length : Int)) = false
        have hx_70 := of_decide_eq_false hb_48
        refine T_gn rfl rfl hb_48 rfl ?_
        refine T_gn rfl rfl hb_48 rfl ?_
        refine T_pv rfl (pv_pick_f rfl hb_48 rfl) ?_
        refine T_nil ?_
        refine N_then ?_
        refine C_condf rfl rfl ?_
        refine C_exit ?_
        refine X_then ?_
        refine X_loop ?_
        refine X_block ?_
        refine N_then ?_
        refine C_seq ?_
        refine C_region rfl ?_
        refine T_pv rfl (pv_fieldAddr rfl fl_26_0) ?_
        refine T_pv rfl (pv_load rfl ag22 (Cell.blk 101 rfl rfl)) ?_
        refine T_pv rfl (pv_len rfl el22) ?_
        refine T_pv rfl (pv_gtr rfl rfl) ?_
        refine T_pv rfl (pv_move rfl) ?_
        refine T_gs (dj := 44) rfl (fun hb_71 => ?_) (fun hb_71 => ?_)
        · -- decide (10 < (f.chans.length : Int)) = true
          have hx_72 := of_decide_eq_true hb_71
          refine T_gn rfl rfl hb_71 rfl ?_
          refine T_gn rfl rfl hb_71 rfl ?_
          refine T_gn rfl rfl hb_71 rfl ?_
          refine T_gn rfl rfl hb_71 rfl ?_
          refine T_pv rfl (pv_pick_t rfl hb_71 rfl) ?_
          refine T_pv rfl (pv_move rfl) ?_
          refine T_gn rfl rfl rfl rfl ?_
          refine T_gn rfl rfl rfl rfl ?_
          refine T_gn rfl rfl rfl rfl ?_
          refine T_gn rfl rfl rfl rfl ?_
          refine T_pv rfl (pv_pick_t rfl rfl rfl) ?_
          refine T_pv rfl (pv_assign rfl) ?_
          refine T_nil ?_
          refine N_then ?_
          refine C_ret0 ?_
          -- ret 5: .bool true
          refine Q_ret (vs := [.bool true]) ⟨rfl, trivial⟩ (L' := []) [] trivial (by simp) (by decide) (⟨true, rfl, rfl, rfl, ?_⟩)
          · first | exact (fun h => by cases h) | exact fun hr => by have := of_decide_eq_false hr; exact ⟨by omega, AllI.all q2 (by omega), by omega, AllI.all s2 (by omega), by omega⟩
        · -- decide (10 < (f.chans.length : Int)) = false
          have hx_73 := of_decide_eq_false hb_71
          refine T_gy rfl rfl hb_71 rfl (pv_fieldAddr rfl fl_26_3) ?_
          refine T_gy rfl rfl hb_71 rfl (pv_load rfl ag23 (Cell.blk 101 rfl rfl)) ?_
          refine T_gy rfl rfl hb_71 rfl (pv_len rfl el23) ?_
          refine T_gy rfl rfl hb_71 rfl (pv_gtr rfl rfl) ?_
          refine T_pv rfl (pv_pick_f rfl hb_71 rfl) ?_
          refine T_pv rfl (pv_move rfl) ?_
          refine T_gs (dj := 50) rfl (fun hb_74 => ?_) (fun hb_74 => ?_)
          · -- decide (40 < (f.bands.length : Int)) = true
            have hx_75 := of_decide_eq_true hb_74
            refine T_gn rfl rfl hb_74 rfl ?_
            refine T_gn rfl rfl hb_74 rfl ?_
            refine T_gn rfl rfl hb_74 rfl ?_
            refine T_gn rfl rfl hb_74 rfl ?_
            refine T_pv rfl (pv_pick_t rfl hb_74 rfl) ?_
            refine T_pv rfl (pv_assign rfl) ?_
            refine T_nil ?_
            refine N_then ?_
            refine C_ret0 ?_
            -- ret 6: .bool true
            refine Q_ret (vs := [.bool true]) ⟨rfl, trivial⟩ (L' := []) [] trivial (by simp) (by decide) (⟨true, rfl, rfl, rfl, ?_⟩)
            · first | exact (fun h => by cases h) | exact fun hr => by have := of_decide_eq_false hr; exact ⟨by omega, AllI.all q2 (by omega), by omega, AllI.all s2 (by omega), by omega⟩
          · -- decide (40 < (f.bands.length : Int)) = false
            have hx_76 := of_decide_eq_false hb_74
            refine T_gy rfl rfl hb_74 rfl (pv_fieldAddr rfl fl_26_4) ?_
            refine T_gy rfl rfl hb_74 rfl (pv_load rfl ag24 (Cell.blk 101 rfl rfl)) ?_
            refine T_gy rfl rfl hb_74 rfl (pv_len rfl el24) ?_
            refine T_gy rfl rfl hb_74 rfl (pv_gtr rfl rfl) ?_
            refine T_pv rfl (pv_pick_f rfl hb_74 rfl) ?_
            refine T_pv rfl (pv_assign rfl) ?_
            refine T_nil ?_
            refine N_then ?_
            refine C_ret0 ?_
            -- ret 7: .bool (decide (2000 < (f.fill.length : Int)))
            refine Q_ret (vs := [.bool (decide (2000 < (f.fill.length : Int)))]) ⟨rfl, trivial⟩ (L' := []) [] trivial (by simp) (by decide) (⟨decide (2000 < (f.fill.length : Int)), rfl, rfl, rfl, ?_⟩)
            · first | exact (fun h => by cases h) | exact fun hr => by have := of_decide_eq_false hr; exact ⟨by omega, AllI.all q2 (by omega), by omega, AllI.all s2 (by omega), by omega⟩
  · -- decide (i < (f.chans.length : Int)) = false
    have hx_77 := of_decide_eq_false hb_3
    refine T_gn rfl rfl hb_3 rfl ?_
    refine T_gn rfl rfl hb_3 rfl ?_
    refine T_pv rfl (pv_pick_f rfl hb_3 rfl) ?_
    refine T_nil ?_
    refine N_then ?_
    refine C_condf rfl rfl ?_
    refine C_exit ?_
    refine X_then ?_
    refine X_loop ?_
    refine X_block ?_
    refine N_then ?_
    refine C_seq ?_
    refine C_seq ?_
    refine C_region rfl ?_
    refine T_pv rfl (pv_assign rfl) ?_
    refine T_nil ?_
    refine N_then ?_
    refine C_block ?_
    refine C_loop (fun (x : Int) => (S, [(101, .blk g_1 [.slice Af0 f.chans.length cf0, .bool f.common, .int .i64 f.mask, .slice Af3 f.bands.length cf3, .slice Af4 f.fill.length cf4] 26)], [(0, .agg #[.slice Af0 f.chans.length cf0, .bool f.common, .int .i64 f.mask, .slice Af3 f.bands.length cf3, .slice Af4 f.fill.length cf4]), (1, .pointer (some ⟨g_1, 0, none⟩)), (3, .int .i64 i), (5, .int .i64 i), (6, .pointer (some ⟨g_1, 0, none⟩)), (7, .slice Af0 f.chans.length cf0), (8, .int .i64 (f.chans.length : Int)), (9, .bool (decide (i < (f.chans.length : Int)))), (10, .bool (decide (i < (f.chans.length : Int)))), (13, .bool false), (4, .int .i64 x)])) (fun (x : Int) => 0 ≤ x ∧ x ≤ f.bands.length ∧ AllI lenL f.bands x) (fun (x : Int) => (f.bands.length - x).toNat) (0) ⟨by omega, by omega, AllI.zero⟩ rfl ⟨rfl, trivial⟩ ⟨rfl, rfl, rfl, rfl, rfl, rfl, rfl, rfl, rfl, rfl, rfl, trivial⟩ ?_
    rintro k ⟨s0, s1, s2⟩
    dsimp only
    refine C_seq ?_
    refine C_seq ?_
    refine C_region rfl ?_
    refine T_pv rfl (pv_move rfl) ?_
    refine T_pv rfl (pv_fieldAddr rfl fl_26_3) ?_
    refine T_pv rfl (pv_load rfl ag23 (Cell.blk 101 rfl rfl)) ?_
    refine T_pv rfl (pv_len rfl el23) ?_
    refine T_pv rfl (pv_lss rfl rfl) ?_
    refine T_pv rfl (pv_move rfl) ?_
    refine T_gs (dj := 27) rfl (fun hb_79 => ?_) (fun hb_79 => ?_)
    · -- decide (k < (f.bands.length : Int)) = true
      have hx_80 := of_decide_eq_true hb_79
      refine T_gy rfl rfl hb_79 rfl (pv_move rfl) ?_
      refine T_gy rfl rfl hb_79 rfl (pv_lss rfl rfl) ?_
      refine T_pv rfl (pv_pick_t rfl hb_79 rfl) ?_
      refine T_nil ?_
      refine N_then ?_
      refine C_cond rfl (fun hb_81 => ?_) (fun hb_81 => ?_)
      · -- decide (k < 40) = true
        have hx_82 := of_decide_eq_true hb_81
        refine C_skip ?_
        refine N_then ?_
        refine C_seq ?_
        refine C_block ?_
        refine C_seq ?_
        refine C_region rfl ?_
        refine T_pv rfl (pv_fieldAddr rfl fl_26_3) ?_
        refine T_pv rfl (pv_load rfl ag23 (Cell.blk 101 rfl rfl)) ?_
        refine T_pv rfl (pv_move rfl) ?_
        obtain ⟨us_83, hk_84, he_85⟩ := RdA.elt hf3 (i := k) (by omega) (by omega)
        obtain ⟨A_86, c_87, rfl, h_88⟩ := hk_84
        have hb_89 := h_88.bd
        refine T_pv rfl (pv_idx hf3 rfl rfl el23 sz38 (by omega) (by omega)) ?_
        refine T_pv rfl (pv_load rfl ag38 ((he_85 _ _ (ImLe.refl _)).zero rfl)) ?_
        refine T_pv rfl (pv_len rfl el38) ?_
        refine T_pv rfl (pv_gtr rfl rfl) ?_
        refine T_nil ?_
        refine N_then ?_
        refine C_cond rfl (fun hb_90 => ?_) (fun hb_90 => ?_)
        · -- decide (200 < ((f.bands.getD (k).toNat default).length : Int)) = true
          have hx_91 := of_decide_eq_true hb_90
          refine C_seq ?_
          refine C_region rfl ?_
          refine T_pv rfl (pv_assign rfl) ?_
          refine T_nil ?_
          refine N_then ?_
          refine C_ret0 ?_
          refine R_block ?_
          refine R_then ?_
          refine R_loop ?_
          refine R_block ?_
          refine R_then ?_
          -- ret 8: .bool true
          refine Q_ret (vs := [.bool true]) ⟨rfl, trivial⟩ (L' := []) [] trivial (by simp) (by decide) (⟨true, rfl, rfl, rfl, ?_⟩)
          · first | exact (fun h => by cases h) | exact fun hr => by have := of_decide_eq_false hr; exact ⟨by omega, AllI.all q2 (by omega), by omega, AllI.all s2 (by omega), by omega⟩
        · -- decide (200 < ((f.bands.getD (k).toNat default).length : Int)) = false
          have hx_92 := of_decide_eq_false hb_90
          refine C_skip ?_
          refine N_block ?_
          refine N_then ?_
          refine C_region rfl ?_
          refine T_pv rfl (pv_move rfl) ?_
          have hr_93 : InR .i64 (k + 1) := inR_i64 (by omega) (by omega)
          refine T_pv rfl (pv_add rfl rfl hr_93) ?_
          refine T_pv rfl (pv_assign rfl) ?_
          refine T_nil ?_
          refine N_next (k + 1) ⟨by omega, by omega, AllI.next s2 (show _ ≤ _ by omega)⟩ (by first | omega | (dsimp only; omega)) rfl ⟨rfl, trivial⟩ ⟨rfl, rfl, rfl, rfl, rfl, rfl, rfl, rfl, rfl, rfl, rfl, trivial⟩
      · -- decide (k < 40) = false
        have hx_94 := of_decide_eq_false hb_81
        refine C_exit ?_
        refine X_then ?_
        refine X_loop ?_
        refine X_block ?_
        refine N_then ?_
        refine C_seq ?_
        refine C_region rfl ?_
        refine T_pv rfl (pv_fieldAddr rfl fl_26_0) ?_
        refine T_pv rfl (pv_load rfl ag22 (Cell.blk 101 rfl rfl)) ?_
        refine T_pv rfl (pv_len rfl el22) ?_
        refine T_pv rfl (pv_gtr rfl rfl) ?_
        refine T_pv rfl (pv_move rfl) ?_
        refine T_gs (dj := 44) rfl (fun hb_95 => ?_) (fun hb_95 => ?_)
        · -- decide (10 < (f.chans.length : Int)) = true
          have hx_96 := of_decide_eq_true hb_95
          refine T_gn rfl rfl hb_95 rfl ?_
          refine T_gn rfl rfl hb_95 rfl ?_
          refine T_gn rfl rfl hb_95 rfl ?_
          refine T_gn rfl rfl hb_95 rfl ?_
          refine T_pv rfl (pv_pick_t rfl hb_95 rfl) ?_
          refine T_pv rfl (pv_move rfl) ?_
          refine T_gn rfl rfl rfl rfl ?_
          refine T_gn rfl rfl rfl rfl ?_
          refine T_gn rfl rfl rfl rfl ?_
          refine T_gn rfl rfl rfl rfl ?_
          refine T_pv rfl (pv_pick_t rfl rfl rfl) ?_
          refine T_pv rfl (pv_assign rfl) ?_
          refine T_nil ?_
          refine N_then ?_
          refine C_ret0 ?_
          -- ret 9: .bool true
          refine Q_ret (vs := [.bool true]) ⟨rfl, trivial⟩ (L' := []) [] trivial (by simp) (by decide) (⟨true, rfl, rfl, rfl, ?_⟩)
          · first | exact (fun h => by cases h) | exact fun hr => by have := of_decide_eq_false hr; exact ⟨by omega, AllI.all q2 (by omega), by omega, AllI.all s2 (by omega), by omega⟩
        · -- decide (10 < (f.chans.length : Int)) = false
          have hx_97 := of_decide_eq_false hb_95
          refine T_gy rfl rfl hb_95 rfl (pv_fieldAddr rfl fl_26_3) ?_
          refine T_gy rfl rfl hb_95 rfl (pv_load rfl ag23 (Cell.blk 101 rfl rfl)) ?_
          refine T_gy rfl rfl hb_95 rfl (pv_len rfl el23) ?_
          refine T_gy rfl rfl hb_95 rfl (pv_gtr rfl rfl) ?_
          refine T_pv rfl (pv_pick_f rfl hb_95 rfl) ?_
          refine T_pv rfl (pv_move rfl) ?_
          refine T_gs (dj := 50) rfl (fun hb_98 => ?_) (fun hb_98 => ?_)
          · -- decide (40 < (f.bands.length : Int)) = true
            have hx_99 := of_decide_eq_true hb_98
            refine T_gn rfl rfl hb_98 rfl ?_
            refine T_gn rfl rfl hb_98 rfl ?_
            refine T_gn rfl rfl hb_98 rfl ?_
            refine T_gn rfl rfl hb_98 rfl ?_
            refine T_pv rfl (pv_pick_t rfl hb_98 rfl) ?_
            refine T_pv rfl (pv_assign rfl) ?_
            refine T_nil ?_
            refine N_then ?_
            refine C_ret0 ?_
            -- ret 10: .bool true
            refine Q_ret (vs := [.bool true]) ⟨rfl, trivial⟩ (L' := []) [] trivial (by simp) (by decide) (⟨true, rfl, rfl, rfl, ?_⟩)
            · first | exact (fun h => by cases h) | exact fun hr => by have := of_decide_eq_false hr; exact ⟨by omega, AllI.all q2 (by omega), by omega, AllI.all s2 (by omega), by omega⟩
          · -- decide (40 < (f.bands.length : Int)) = false
            have hx_100 := of_decide_eq_false hb_98
            refine T_gy rfl rfl hb_98 rfl (pv_fieldAddr rfl fl_26_4) ?_
            refine T_gy rfl rfl hb_98 rfl (pv_load rfl ag24 (Cell.blk 101 rfl rfl)) ?_
            refine T_gy rfl rfl hb_98 rfl (pv_len rfl el24) ?_
            refine T_gy rfl rfl hb_98 rfl (pv_gtr rfl rfl) ?_
            refine T_pv rfl (pv_pick_f rfl hb_98 rfl) ?_
            refine T_pv rfl (pv_assign rfl) ?_
            refine T_nil ?_
            refine N_then ?_
            refine C_ret0 ?_
            -- ret 11: .bool (decide (2000 < (f.fill.length : Int)))
            refine Q_ret (vs := [.bool (decide (2000 < (f.fill.length : Int)))]) ⟨rfl, trivial⟩ (L' := []) [] trivial (by simp) (by decide) (⟨decide (2000 < (f.fill.length : Int)), rfl, rfl, rfl, ?_⟩)
            · first | exact (fun h => by cases h) | exact fun hr => by have := of_decide_eq_false hr; exact ⟨by omega, AllI.all q2 (by omega), by omega, AllI.all s2 (by omega), by omega⟩
    · -- decide (k < (f.bands.length : Int)) = false
      have hx_101 := of_decide_eq_false hb_79
      refine T_gn rfl rfl hb_79 rfl ?_
      refine T_gn rfl rfl hb_79 rfl ?_
      refine T_pv rfl (pv_pick_f rfl hb_79 rfl) ?_
      refine T_nil ?_
      refine N_then ?_
      refine C_condf rfl rfl ?_
      refine C_exit ?_
      refine X_then ?_
      refine X_loop ?_
      refine X_block ?_
      refine N_then ?_
      refine C_seq ?_
      refine C_region rfl ?_
      refine T_pv rfl (pv_fieldAddr rfl fl_26_0) ?_
      refine T_pv rfl (pv_load rfl ag22 (Cell.blk 101 rfl rfl)) ?_
      refine T_pv rfl (pv_len rfl el22) ?_
      refine T_pv rfl (pv_gtr rfl rfl) ?_
      refine T_pv rfl (pv_move rfl) ?_
      refine T_gs (dj := 44) rfl (fun hb_102 => ?_) (fun hb_102 => ?_)
      · -- decide (10 < (f.chans.length : Int)) = true
        have hx_103 := of_decide_eq_true hb_102
        refine T_gn rfl rfl hb_102 rfl ?_
        refine T_gn rfl rfl hb_102 rfl ?_
        refine T_gn rfl rfl hb_102 rfl ?_
        refine T_gn rfl rfl hb_102 rfl ?_
        refine T_pv rfl (pv_pick_t rfl hb_102 rfl) ?_
        refine T_pv rfl (pv_move rfl) ?_
        refine T_gn rfl rfl rfl rfl ?_
        refine T_gn rfl rfl rfl rfl ?_
        refine T_gn rfl rfl rfl rfl ?_
        refine T_gn rfl rfl rfl rfl ?_
        refine T_pv rfl (pv_pick_t rfl rfl rfl) ?_
        refine T_pv rfl (pv_assign rfl) ?_
        refine T_nil ?_
        refine N_then ?_
        refine C_ret0 ?_
        -- ret 12: .bool true
        refine Q_ret (vs := [.bool true]) ⟨rfl, trivial⟩ (L' := []) [] trivial (by simp) (by decide) (⟨true, rfl, rfl, rfl, ?_⟩)
        · first | exact (fun h => by cases h) | exact fun hr => by have := of_decide_eq_false hr; exact ⟨by omega, AllI.all q2 (by omega), by omega, AllI.all s2 (by omega), by omega⟩
      · -- decide (10 < (f.chans.length : Int)) = false
        have hx_104 := of_decide_eq_false hb_102
        refine T_gy rfl rfl hb_102 rfl (pv_fieldAddr rfl fl_26_3) ?_
        refine T_gy rfl rfl hb_102 rfl (pv_load rfl ag23 (Cell.blk 101 rfl rfl)) ?_
        refine T_gy rfl rfl hb_102 rfl (pv_len rfl el23) ?_
        refine T_gy rfl rfl hb_102 rfl (pv_gtr rfl rfl) ?_
        refine T_pv rfl (pv_pick_f rfl hb_102 rfl) ?_
        refine T_pv rfl (pv_move rfl) ?_
        refine T_gs (dj := 50) rfl (fun hb_105 => ?_) (fun hb_105 => ?_)
        · -- decide (40 < (f.bands.length : Int)) = true
          have hx_106 := of_decide_eq_true hb_105
          refine T_gn rfl rfl hb_105 rfl ?_
          refine T_gn rfl rfl hb_105 rfl ?_
          refine T_gn rfl rfl hb_105 rfl ?_
          refine T_gn rfl rfl hb_105 rfl ?_
          refine T_pv rfl (pv_pick_t rfl hb_105 rfl) ?_
          refine T_pv rfl (pv_assign rfl) ?_
          refine T_nil ?_
          refine N_then ?_
          refine C_ret0 ?_
          -- ret 13: .bool true
          refine Q_ret (vs := [.bool true]) ⟨rfl, trivial⟩ (L' := []) [] trivial (by simp) (by decide) (⟨true, rfl, rfl, rfl, ?_⟩)
          · first | exact (fun h => by cases h) | exact fun hr => by have := of_decide_eq_false hr; exact ⟨by omega, AllI.all q2 (by omega), by omega, AllI.all s2 (by omega), by omega⟩
        · -- decide (40 < (f.bands.length : Int)) = false
          have hx_107 := of_decide_eq_false hb_105
          refine T_gy rfl rfl hb_105 rfl (pv_fieldAddr rfl fl_26_4) ?_
          refine T_gy rfl rfl hb_105 rfl (pv_load rfl ag24 (Cell.blk 101 rfl rfl)) ?_
          refine T_gy rfl rfl hb_105 rfl (pv_len rfl el24) ?_
          refine T_gy rfl rfl hb_105 rfl (pv_gtr rfl rfl) ?_
          refine T_pv rfl (pv_pick_f rfl hb_105 rfl) ?_
          refine T_pv rfl (pv_assign rfl) ?_
          refine T_nil ?_
          refine N_then ?_
          refine C_ret0 ?_
          -- ret 14: .bool (decide (2000 < (f.fill.length : Int)))
          refine Q_ret (vs := [.bool (decide (2000 < (f.fill.length : Int)))]) ⟨rfl, trivial⟩ (L' := []) [] trivial (by simp) (by decide) (⟨decide (2000 < (f.fill.length : Int)), rfl, rfl, rfl, ?_⟩)
          · first | exact (fun h => by cases h) | exact fun hr => by have := of_decide_eq_false hr; exact ⟨by omega, AllI.all q2 (by omega), by omega, AllI.all s2 (by omega), by omega⟩

end Go.Proofs.Ythamgiecgilmdaa
