/- Walks, printed by wip/tool/walk2.py. -/
import Derived.Test.YthamgiecgilmdaaSe
namespace Go.Proofs.Ythamgiecgilmdaa
open Go Go.RowKit

set_option maxRecDepth 100000 in
theorem f_lane_Twin (S : Im) (c : GChan) (hc0 : InR .i64 c.gain) (hc1 : InR .u8 c.info.seq) (hc2 : InR .u8 c.info.shape) (hc3 : InR .i64 c.info.max) (Ac4 : Option Addr) (cc4 : Nat) (hc4 : RdA (kInt .i64) S Ac4 cc4 c.info.groups) (Ac5 : Option Addr) (cc5 : Nat) (hc5 : RdA (kSl kGSection) S Ac5 cc5 c.sections) (Ac6 : Option Addr) (cc6 : Nat) (hc6 : RdA (kSl (kInt .i64)) S Ac6 cc6 c.steps) (Ac7 : Option Addr) (cc7 : Nat) (hc7 : RdA (kSl kGFilter) S Ac7 cc7 c.tns) (Ac8 : Option Addr) (cc8 : Nat) (hc8 : RdA (kInt .i64) S Ac8 cc8 c.lines) (p0 : GChan.small c) : Fn Try.prog 13 [.agg #[.int .i64 c.gain, .int .u8 c.info.seq, .int .u8 c.info.shape, .int .i64 c.info.max, .slice Ac4 c.info.groups.length cc4, .slice Ac5 c.sections.length cc5, .slice Ac6 c.steps.length cc6, .slice Ac7 c.tns.length cc7, .slice Ac8 c.lines.length cc8]] S [] fun v S' L' => ∃ (ur0 : List Value) (r0 : GChan), v = .agg ur0.toArray ∧ L' = [] ∧ c = r0 ∧ kGChan.K S' ur0 r0 ∧ (∃ A cc, ur0[8]? = some (Value.slice A c.lines.length cc) ∧ RdA (kInt .i64) (S'.minus S) A cc c.lines) := by
  have hb_c0 := InR.i64 hc0
  have hb_c1 := InR.u8 hc1
  have hb_c2 := InR.u8 hc2
  have hb_c3 := InR.i64 hc3
  have hb_c4 := hc4.bd
  have hb_c5 := hc5.bd
  have hb_c6 := hc6.bd
  have hb_c7 := hc7.bd
  have hb_c8 := hc8.bd
  have z1 := p0.groups; have z2 := p0.sections; have z3 := p0.section1; have z4 := p0.steps; have z5 := p0.step1; have z6 := p0.tns; have z7 := p0.tns1; have z8 := p0.lines
  refine Fn_intro 51 Try.func13 rfl rfl rfl fun w0 => ?_
  refine C_seq ?_
  refine C_region rfl ?_
  refine T_cons (op_box (cs := [.int .i64 c.gain, .int .u8 c.info.seq, .int .u8 c.info.shape, .int .i64 c.info.max, .slice Ac4 c.info.groups.length cc4, .slice Ac5 c.sections.length cc5, .slice Ac6 c.steps.length cc6, .slice Ac7 c.tns.length cc7, .slice Ac8 c.lines.length cc8]) (lt_of rfl) 101 rfl rfl fun g_1 => ?_)
  refine T_cons (op_alloc (cs := [.int .i64 0, .int .u8 0, .int .u8 0, .int .i64 0, .slice none 0 0, .slice none 0 0, .slice none 0 0, .slice none 0 0, .slice none 0 0]) (lt_of rfl) 102 zr37 rfl fun g_2 => ?_)
  refine T_nil ?_
  refine N_then ?_
  refine C_seq ?_
  refine C_drawS (S) [(101, .blk g_1 [.int .i64 c.gain, .int .u8 c.info.seq, .int .u8 c.info.shape, .int .i64 c.info.max, .slice Ac4 c.info.groups.length cc4, .slice Ac5 c.sections.length cc5, .slice Ac6 c.steps.length cc6, .slice Ac7 c.tns.length cc7, .slice Ac8 c.lines.length cc8] 37), (102, .blk g_2 [.int .i64 0, .int .u8 0, .int .u8 0, .int .i64 0, .slice none 0 0, .slice none 0 0, .slice none 0 0, .slice none 0 0, .slice none 0 0] 37)] 15 (by kernel_rfl) rfl (fun h0_3 => ?_)
  refine A_take (i := 0) rfl (by kernel_rfl) (held_le ⟨rfl, rfl, trivial⟩ (ImLe.refl _) h0_3) rfl (pv_fieldAddr rfl fl_37_1) ?_
  refine A_take (i := 1) rfl (by kernel_rfl) (held_le ⟨rfl, rfl, trivial⟩ (ImLe.refl _) h0_3) rfl (pv_load_agg (cs := [.int .u8 c.info.seq, .int .u8 c.info.shape, .int .i64 c.info.max, .slice Ac4 c.info.groups.length cc4]) rfl ag32 sz32 rfl ⟨Cell.blk 101 rfl rfl, Cell.blk 101 rfl rfl, Cell.blk 101 rfl rfl, Cell.blk 101 rfl rfl, trivial⟩) ?_
  refine A_take (i := 3) rfl (by kernel_rfl) (held_le ⟨rfl, rfl, trivial⟩ (ImLe.refl _) h0_3) rfl (pv_fieldAddr rfl fl_37_2) ?_
  refine A_take (i := 4) rfl (by kernel_rfl) (held_le ⟨rfl, rfl, trivial⟩ (ImLe.refl _) h0_3) rfl (pv_load rfl ag33 (Cell.blk 101 rfl rfl)) ?_
  refine A_take (i := 6) rfl (by kernel_rfl) (held_le ⟨rfl, rfl, trivial⟩ (ImLe.refl _) h0_3) rfl (pv_fieldAddr rfl fl_37_3) ?_
  refine A_take (i := 7) rfl (by kernel_rfl) (held_le ⟨rfl, rfl, trivial⟩ (ImLe.refl _) h0_3) rfl (pv_load rfl ag34 (Cell.blk 101 rfl rfl)) ?_
  refine A_take (i := 9) rfl (by kernel_rfl) (held_le ⟨rfl, rfl, trivial⟩ (ImLe.refl _) h0_3) rfl (pv_fieldAddr rfl fl_37_4) ?_
  refine A_take (i := 10) rfl (by kernel_rfl) (held_le ⟨rfl, rfl, trivial⟩ (ImLe.refl _) h0_3) rfl (pv_load rfl ag35 (Cell.blk 101 rfl rfl)) ?_
  refine A_take (i := 12) rfl (by kernel_rfl) (held_le ⟨rfl, rfl, trivial⟩ (ImLe.refl _) h0_3) rfl (pv_fieldAddr rfl fl_37_5) ?_
  refine A_take (i := 13) rfl (by kernel_rfl) (held_le ⟨rfl, rfl, trivial⟩ (ImLe.refl _) h0_3) rfl (pv_load rfl ag30 (Cell.blk 101 rfl rfl)) ?_
  refine A_one (i := 2) (by kernel_rfl) ?_
  refine AS_op rfl (op_call (fun _ h => by cases h; exact lt_of rfl) rfl rfl rfl en22 (f_info_Twin _ c.info hc1 hc2 hc3 _ _ hc4 z1) [] trivial (by simp) (by decide) ?_)
  rintro v_9 S_7 L_10 ⟨us_4, r_5, rfl, rfl, rfl, h_6⟩ hle_8
  obtain ⟨A_11, c_12, rfl, h_13, h_14, h_15, h_16⟩ := h_6
  have hq_17 := InR.u8 h_13
  have hq_18 := InR.u8 h_14
  have hq_19 := InR.i64 h_15
  have hb_20 := h_16.bd
  refine ⟨rfl, ?_⟩
  refine ⟨fun _ => (held_le ⟨rfl, rfl, trivial⟩ hle_8 h0_3), ?_⟩
  refine A_two (i := 5) (j := 15) (by kernel_rfl) ?_ ?_
  · -- number 5
    refine AS_op rfl (op_call (fun _ h => by cases h; exact lt_of rfl) rfl rfl rfl en23 (f_twinsS _ _ _ c.sections (hc5.mono hle_8) z2 z3) [103] trivial (by simp) (by decide) ?_)
    rintro v_28 S_26 L_29 ⟨A_21, c_22, r_23, cells_24, rfl, rfl, rfl, h_25⟩ hle_27
    have hb_30 := h_25.bd
    refine ⟨rfl, ?_⟩
    refine ⟨fun _ => (held_le ⟨rfl, rfl, trivial⟩ (ImLe.trans hle_8 hle_27) h0_3), ?_⟩
    refine A_two (i := 8) (j := 15) (by kernel_rfl) ?_ ?_
    · -- number 8
      refine AS_op rfl (op_call (fun _ h => by cases h; exact lt_of rfl) rfl rfl rfl en24 (f_twinsI _ _ _ c.steps (hc6.mono (ImLe.trans hle_8 hle_27)) z4 z5) [104] trivial (by simp) (by decide) ?_)
      rintro v_38 S_36 L_39 ⟨A_31, c_32, r_33, cells_34, rfl, rfl, rfl, h_35⟩ hle_37
      have hb_40 := h_35.bd
      refine ⟨rfl, ?_⟩
      refine ⟨fun _ => (held_le ⟨rfl, rfl, trivial⟩ (ImLe.trans (ImLe.trans hle_8 hle_27) hle_37) h0_3), ?_⟩
      refine A_two (i := 11) (j := 15) (by kernel_rfl) ?_ ?_
      · -- number 11
        refine AS_op rfl (op_call (fun _ h => by cases h; exact lt_of rfl) rfl rfl rfl en25 (f_twinsF _ _ _ c.tns (hc7.mono (ImLe.trans (ImLe.trans hle_8 hle_27) hle_37)) z6 z7) [105] trivial (by simp) (by decide) ?_)
        rintro v_49 S_47 L_50 ⟨A_41, c_42, r_43, cells_44, rfl, rfl, rfl, h_45, hf_46⟩ hle_48
        have hb_51 := h_45.bd
        refine ⟨rfl, ?_⟩
        refine ⟨fun _ => (held_le ⟨rfl, rfl, trivial⟩ (ImLe.trans (ImLe.trans (ImLe.trans hle_8 hle_27) hle_37) hle_48) h0_3), ?_⟩
        refine A_two (i := 14) (j := 15) (by kernel_rfl) ?_ ?_
        · -- number 14
          refine AS_op rfl (op_call (fun _ h => by cases h; exact lt_of rfl) rfl rfl rfl en26 (f_CloneI _ _ _ c.lines (hc8.mono (ImLe.trans (ImLe.trans (ImLe.trans hle_8 hle_27) hle_37) hle_48)) (by omega)) [106] trivial (by simp) (by decide) ?_)
          rintro v_59 S_57 L_60 ⟨A_52, c_53, r_54, cells_55, rfl, rfl, rfl, rfl, h_56⟩ hle_58
          have hb_61 := h_56.bd
          refine ⟨rfl, ?_⟩
          refine ⟨fun _ => (held_le ⟨rfl, rfl, trivial⟩ (ImLe.trans (ImLe.trans (ImLe.trans hle_8 hle_27) hle_37) hle_48) h0_3), ?_⟩
          refine A_one (i := 15) (by kernel_rfl) ?_
          refine AS_op rfl (op_pv (lt_of rfl) (pv_fieldAddr rfl fl_37_1) ⟨(fun h => by cases h), ?_⟩)
          refine A_one (i := 16) (by kernel_rfl) ?_
          refine AS_op rfl (op_store_any (vs := [.int .u8 c.info.seq, .int .u8 c.info.shape, .int .i64 c.info.max, .slice A_11 c.info.groups.length c_12]) (cs' := [.int .i64 c.gain, .int .u8 c.info.seq, .int .u8 c.info.shape, .int .i64 c.info.max, .slice A_11 c.info.groups.length c_12, .slice Ac5 c.sections.length cc5, .slice Ac6 c.steps.length cc6, .slice Ac7 c.tns.length cc7, .slice Ac8 c.lines.length cc8]) 101 rfl rfl rfl sz32 (by simp [Value.oneCell']) rfl (Nat.le_of_ble_eq_true rfl) rfl ?_)
          refine ⟨(fun h => by cases h), ?_⟩
          refine A_one (i := 17) (by kernel_rfl) ?_
          refine AS_op rfl (op_pv (lt_of rfl) (pv_fieldAddr rfl fl_37_2) ⟨(fun h => by cases h), ?_⟩)
          refine A_one (i := 18) (by kernel_rfl) ?_
          refine AS_op rfl (op_store_any (vs := [.slice A_21 c.sections.length c_22]) (cs' := [.int .i64 c.gain, .int .u8 c.info.seq, .int .u8 c.info.shape, .int .i64 c.info.max, .slice A_11 c.info.groups.length c_12, .slice A_21 c.sections.length c_22, .slice Ac6 c.steps.length cc6, .slice Ac7 c.tns.length cc7, .slice Ac8 c.lines.length cc8]) 101 rfl rfl rfl sz33 (by simp [Value.oneCell']) rfl (Nat.le_of_ble_eq_true rfl) rfl ?_)
          refine ⟨(fun h => by cases h), ?_⟩
          refine A_one (i := 19) (by kernel_rfl) ?_
          refine AS_op rfl (op_pv (lt_of rfl) (pv_fieldAddr rfl fl_37_3) ⟨(fun h => by cases h), ?_⟩)
          refine A_one (i := 20) (by kernel_rfl) ?_
          refine AS_op rfl (op_store_any (vs := [.slice A_31 c.steps.length c_32]) (cs' := [.int .i64 c.gain, .int .u8 c.info.seq, .int .u8 c.info.shape, .int .i64 c.info.max, .slice A_11 c.info.groups.length c_12, .slice A_21 c.sections.length c_22, .slice A_31 c.steps.length c_32, .slice Ac7 c.tns.length cc7, .slice Ac8 c.lines.length cc8]) 101 rfl rfl rfl sz34 (by simp [Value.oneCell']) rfl (Nat.le_of_ble_eq_true rfl) rfl ?_)
          refine ⟨(fun h => by cases h), ?_⟩
          refine A_one (i := 21) (by kernel_rfl) ?_
          refine AS_op rfl (op_pv (lt_of rfl) (pv_fieldAddr rfl fl_37_4) ⟨(fun h => by cases h), ?_⟩)
          refine A_one (i := 22) (by kernel_rfl) ?_
          refine AS_op rfl (op_store_any (vs := [.slice A_41 c.tns.length c_42]) (cs' := [.int .i64 c.gain, .int .u8 c.info.seq, .int .u8 c.info.shape, .int .i64 c.info.max, .slice A_11 c.info.groups.length c_12, .slice A_21 c.sections.length c_22, .slice A_31 c.steps.length c_32, .slice A_41 c.tns.length c_42, .slice Ac8 c.lines.length cc8]) 101 rfl rfl rfl sz35 (by simp [Value.oneCell']) rfl (Nat.le_of_ble_eq_true rfl) rfl ?_)
          refine ⟨(fun h => by cases h), ?_⟩
          refine A_one (i := 23) (by kernel_rfl) ?_
          refine AS_op rfl (op_pv (lt_of rfl) (pv_fieldAddr rfl fl_37_5) ⟨(fun h => by cases h), ?_⟩)
          refine A_one (i := 24) (by kernel_rfl) ?_
          refine AS_op rfl (op_store_any (vs := [.slice A_52 c.lines.length c_53]) (cs' := [.int .i64 c.gain, .int .u8 c.info.seq, .int .u8 c.info.shape, .int .i64 c.info.max, .slice A_11 c.info.groups.length c_12, .slice A_21 c.sections.length c_22, .slice A_31 c.steps.length c_32, .slice A_41 c.tns.length c_42, .slice A_52 c.lines.length c_53]) 101 rfl rfl rfl sz30 (by simp [Value.oneCell']) rfl (Nat.le_of_ble_eq_true rfl) rfl ?_)
          refine ⟨(fun h => by cases h), ?_⟩
          refine A_done (by kernel_rfl) ?_
          refine N_then ?_
          refine C_seq ?_
          refine C_seq ?_
          refine C_region rfl ?_
          refine T_pv rfl (pv_fieldAddr rfl fl_37_4) ?_
          refine T_pv rfl (pv_load rfl ag35 (Cell.blk 101 rfl rfl)) ?_
          refine T_pv rfl (pv_len rfl el35) ?_
          refine T_pv rfl (pv_move rfl) ?_
          refine T_nil ?_
          refine N_then ?_
          refine C_block ?_
          refine C_loop (fun (x : Int × Im) => (x.2, [(101, .blk g_1 [.int .i64 c.gain, .int .u8 c.info.seq, .int .u8 c.info.shape, .int .i64 c.info.max, .slice A_11 c.info.groups.length c_12, .slice A_21 c.sections.length c_22, .slice A_31 c.steps.length c_32, .slice A_41 c.tns.length c_42, .slice A_52 c.lines.length c_53] 37), (102, .blk g_2 [.int .i64 0, .int .u8 0, .int .u8 0, .int .i64 0, .slice none 0 0, .slice none 0 0, .slice none 0 0, .slice none 0 0, .slice none 0 0] 37), (103, .row (.slice A_21 c.sections.length c_22) 50 1 c.sections.length cells_24), (104, .row (.slice A_31 c.steps.length c_32) 30 1 c.steps.length cells_34), (105, .row (.slice A_41 c.tns.length c_42) 51 1 c.tns.length cells_44), (106, .row (.slice A_52 c.lines.length c_53) 3 1 c.lines.length cells_55)], [(0, .agg #[.int .i64 c.gain, .int .u8 c.info.seq, .int .u8 c.info.shape, .int .i64 c.info.max, .slice Ac4 c.info.groups.length cc4, .slice Ac5 c.sections.length cc5, .slice Ac6 c.steps.length cc6, .slice Ac7 c.tns.length cc7, .slice Ac8 c.lines.length cc8]), (1, .pointer (some ⟨g_1, 0, none⟩)), (2, .pointer (some ⟨g_2, 0, none⟩)), (6, .pointer (some ⟨g_1, 1, none⟩)), (7, .agg #[.int .u8 c.info.seq, .int .u8 c.info.shape, .int .i64 c.info.max, .slice Ac4 c.info.groups.length cc4]), (9, .pointer (some ⟨g_1, 5, none⟩)), (10, .slice Ac5 c.sections.length cc5), (12, .pointer (some ⟨g_1, 6, none⟩)), (13, .slice Ac6 c.steps.length cc6), (15, .pointer (some ⟨g_1, 7, none⟩)), (16, .slice Ac7 c.tns.length cc7), (18, .pointer (some ⟨g_1, 8, none⟩)), (19, .slice Ac8 c.lines.length cc8), (8, .agg #[.int .u8 c.info.seq, .int .u8 c.info.shape, .int .i64 c.info.max, .slice A_11 c.info.groups.length c_12]), (11, .slice A_21 c.sections.length c_22), (14, .slice A_31 c.steps.length c_32), (17, .slice A_41 c.tns.length c_42), (20, .slice A_52 c.lines.length c_53), (21, .pointer (some ⟨g_1, 1, none⟩)), (22, .pointer (some ⟨g_1, 5, none⟩)), (23, .pointer (some ⟨g_1, 6, none⟩)), (24, .pointer (some ⟨g_1, 7, none⟩)), (25, .pointer (some ⟨g_1, 8, none⟩)), (26, .pointer (some ⟨g_1, 7, none⟩)), (27, .slice A_41 c.tns.length c_42), (28, .int .i64 (c.tns.length : Int)), (29, .int .i64 x.1)])) (fun (x : Int × Im) => ImLe S_36 x.2 ∧ 0 ≤ x.1 ∧ x.1 ≤ c.tns.length ∧ RowOk (kSl kGFilter) x.2 A_41 c_42 cells_44 c.tns ∧ RdL (kSl (kAnyN 5)) (x.2.minus S_36) cells_44 (c.tns.map shp)) (fun (x : Int × Im) => (c.tns.length - x.1).toNat) ((0, S_47)) ⟨hle_48, ⟨by omega, by omega, h_45, hf_46⟩⟩ rfl ⟨rfl, rfl, rfl, rfl, rfl, rfl, trivial⟩ ⟨rfl, rfl, rfl, rfl, rfl, rfl, rfl, rfl, rfl, rfl, rfl, rfl, rfl, rfl, rfl, rfl, rfl, rfl, rfl, rfl, rfl, rfl, rfl, rfl, rfl, rfl, rfl, trivial⟩ ?_
          rintro ⟨j, T1⟩ ⟨hle_62, ⟨q0, q1, q2, q3⟩⟩
          dsimp only at *
          refine C_seq ?_
          refine C_region rfl ?_
          refine T_pv rfl (pv_lss rfl rfl) ?_
          refine T_nil ?_
          refine N_then ?_
          refine C_seq ?_
          refine C_cond rfl (fun hb_63 => ?_) (fun hb_63 => ?_)
          · -- decide (j < (c.tns.length : Int)) = true
            have hx_64 := of_decide_eq_true hb_63
            refine C_skip ?_
            refine N_then ?_
            refine C_seq ?_
            refine C_block ?_
            refine C_seq ?_
            refine C_region rfl ?_
            obtain ⟨us_65, hk_66, hcut_68, he_67⟩ := RowOk.elt q2 (i := j) (by omega) (by omega)
            obtain ⟨A_69, c_70, rfl, h_71⟩ := hk_66
            have hb_72 := h_71.bd
            refine T_pv rfl (pv_idxrow q2 rfl rfl el35 sz51 (by omega) (by omega)) ?_
            refine T_pv rfl (pv_load rfl ag51 ((he_67 _ _ 105 _ _ rfl).zero rfl)) ?_
            refine T_pv rfl (pv_assign rfl) ?_
            refine T_nil ?_
            refine N_then ?_
            refine C_seq ?_
            refine C_region rfl ?_
            refine T_pv rfl (pv_move rfl) ?_
            refine T_pv rfl (pv_len rfl el51) ?_
            refine T_pv rfl (pv_move rfl) ?_
            refine T_nil ?_
            refine N_then ?_
            refine C_block ?_
            have hsj := shape_at q3 hcut_68 (by omega) (by omega)
            have zz := z7.at_ (i := j) (by omega) (by omega)
            refine C_loop (fun (x : Int × Im) => (x.2, [(101, .blk g_1 [.int .i64 c.gain, .int .u8 c.info.seq, .int .u8 c.info.shape, .int .i64 c.info.max, .slice A_11 c.info.groups.length c_12, .slice A_21 c.sections.length c_22, .slice A_31 c.steps.length c_32, .slice A_41 c.tns.length c_42, .slice A_52 c.lines.length c_53] 37), (102, .blk g_2 [.int .i64 0, .int .u8 0, .int .u8 0, .int .i64 0, .slice none 0 0, .slice none 0 0, .slice none 0 0, .slice none 0 0, .slice none 0 0] 37), (103, .row (.slice A_21 c.sections.length c_22) 50 1 c.sections.length cells_24), (104, .row (.slice A_31 c.steps.length c_32) 30 1 c.steps.length cells_34), (105, .row (.slice A_41 c.tns.length c_42) 51 1 c.tns.length cells_44), (106, .row (.slice A_52 c.lines.length c_53) 3 1 c.lines.length cells_55)], [(0, .agg #[.int .i64 c.gain, .int .u8 c.info.seq, .int .u8 c.info.shape, .int .i64 c.info.max, .slice Ac4 c.info.groups.length cc4, .slice Ac5 c.sections.length cc5, .slice Ac6 c.steps.length cc6, .slice Ac7 c.tns.length cc7, .slice Ac8 c.lines.length cc8]), (1, .pointer (some ⟨g_1, 0, none⟩)), (2, .pointer (some ⟨g_2, 0, none⟩)), (6, .pointer (some ⟨g_1, 1, none⟩)), (7, .agg #[.int .u8 c.info.seq, .int .u8 c.info.shape, .int .i64 c.info.max, .slice Ac4 c.info.groups.length cc4]), (9, .pointer (some ⟨g_1, 5, none⟩)), (10, .slice Ac5 c.sections.length cc5), (12, .pointer (some ⟨g_1, 6, none⟩)), (13, .slice Ac6 c.steps.length cc6), (15, .pointer (some ⟨g_1, 7, none⟩)), (16, .slice Ac7 c.tns.length cc7), (18, .pointer (some ⟨g_1, 8, none⟩)), (19, .slice Ac8 c.lines.length cc8), (8, .agg #[.int .u8 c.info.seq, .int .u8 c.info.shape, .int .i64 c.info.max, .slice A_11 c.info.groups.length c_12]), (11, .slice A_21 c.sections.length c_22), (14, .slice A_31 c.steps.length c_32), (17, .slice A_41 c.tns.length c_42), (20, .slice A_52 c.lines.length c_53), (21, .pointer (some ⟨g_1, 1, none⟩)), (22, .pointer (some ⟨g_1, 5, none⟩)), (23, .pointer (some ⟨g_1, 6, none⟩)), (24, .pointer (some ⟨g_1, 7, none⟩)), (25, .pointer (some ⟨g_1, 8, none⟩)), (26, .pointer (some ⟨g_1, 7, none⟩)), (27, .slice A_41 c.tns.length c_42), (28, .int .i64 (c.tns.length : Int)), (29, .int .i64 j), (30, .bool (decide (j < (c.tns.length : Int)))), (4, .slice A_69 ((c.tns.getD (j).toNat default).length) c_70), (34, .int .i64 ((c.tns.getD (j).toNat default).length : Int)), (35, .int .i64 x.1)])) (fun (x : Int × Im) => ImLe S_36 x.2 ∧ 0 ≤ x.1 ∧ x.1 ≤ (c.tns.getD (j).toNat default).length ∧ RowOk (kSl kGFilter) x.2 A_41 c_42 cells_44 c.tns ∧ RdL (kSl (kAnyN 5)) (x.2.minus S_36) cells_44 (c.tns.map shp) ∧ RdA kGFilter x.2 A_69 c_70 (c.tns.getD (j).toNat default) ∧ RdA (kAnyN 5) (x.2.minus S_36) A_69 c_70 (shp (c.tns.getD (j).toNat default))) (fun (x : Int × Im) => ((c.tns.getD (j).toNat default).length - x.1).toNat) ((0, T1)) ⟨hle_62, ⟨by omega, by omega, q2, q3, h_71, hsj⟩⟩ rfl ⟨rfl, rfl, rfl, rfl, rfl, rfl, trivial⟩ ⟨rfl, rfl, rfl, rfl, rfl, rfl, rfl, rfl, rfl, rfl, rfl, rfl, rfl, rfl, rfl, rfl, rfl, rfl, rfl, rfl, rfl, rfl, rfl, rfl, rfl, rfl, rfl, rfl, rfl, rfl, rfl, trivial⟩ ?_
            rintro ⟨k, T2⟩ ⟨hle_73, ⟨s0, s1, s2, s3, s4, s5⟩⟩
            dsimp only at *
            refine C_seq ?_
            refine C_region rfl ?_
            refine T_pv rfl (pv_lss rfl rfl) ?_
            refine T_nil ?_
            refine N_then ?_
            refine C_seq ?_
            refine C_cond rfl (fun hb_74 => ?_) (fun hb_74 => ?_)
            · -- decide (k < ((c.tns.getD (j).toNat default).length : Int)) = true
              have hx_75 := of_decide_eq_true hb_74
              refine C_skip ?_
              refine N_then ?_
              refine C_seq ?_
              refine C_block ?_
              refine C_seq ?_
              refine C_region rfl ?_
              refine T_pv rfl (pv_move rfl) ?_
              refine T_pv rfl (pv_assign rfl) ?_
              refine T_nil ?_
              refine N_then ?_
              refine C_region rfl ?_
              refine T_pv rfl (pv_move rfl) ?_
              refine T_pv rfl (pv_move rfl) ?_
              refine T_pv rfl (pv_move rfl) ?_
              refine T_pv rfl (pv_move rfl) ?_
              obtain ⟨us_76, hk_77, he_78⟩ := RdA.elt s4 (i := k) (by omega) (by omega)
              obtain ⟨A_79, c_80, rfl, h_81, h_82, h_83⟩ := hk_77
              have hq_84 := InR.i64 h_81
              have hq_85 := InR.i64 h_82
              have hb_86 := h_83.bd
              refine T_pv rfl (pv_idx s4 rfl rfl el51 sz53 (by omega) (by omega)) ?_
              refine T_pv rfl (pv_fieldAddr rfl fl_53_4) ?_
              refine T_pv rfl (pv_load rfl ag30 ((he_78 _ _ (ImLe.refl _)).at_ 4 rfl)) ?_
              have zf : _ ≤ 2000 := zz.2.at_ (i := k) (by omega) (by omega)
              refine T_cons (op_call (fun _ h => by cases h; exact lt_of rfl) rfl rfl rfl en26 (f_CloneI _ _ _ (((c.tns.getD (j).toNat default).getD (k).toNat default).coefs) h_83 (by omega)) [107] trivial (by simp) (by decide) ?_)
              rintro v_94 S_92 L_95 ⟨A_87, c_88, r_89, cells_90, rfl, rfl, rfl, rfl, h_91⟩ hle_93
              have hb_96 := h_91.bd
              refine ⟨rfl, ?_⟩
              refine T_pv rfl (pv_idx s4 rfl rfl el51 sz53 (by omega) (by omega)) ?_
              refine T_pv rfl (pv_fieldAddr rfl fl_53_4) ?_
              refine T_freezeRow 107 rfl (fun S_97 hle_98 hz_99 => ?_)
              have hf_101 : RdA (kInt .i64) (S_97.minus T2) A_87 c_88 (((c.tns.getD (j).toNat default).getD (k).toNat default).coefs) := (hz_99 _ (ImLe.refl _) (kInt .i64) _ rfl (RowOk.any (S' := (T2.minus T2)) (fun _ _ _ _ h => h) h_91).len (((RowOk.any (S' := (T2.minus T2)) (fun _ _ _ _ h => h) h_91).mono (Im.minus_mono hle_98)).rd))
              obtain ⟨g, cs, T, fr, had, hg, hg0, hlt, hput⟩ := coef_put s4 s5 hle_98 hle_73 (k := k) (by omega) (by omega) hf_101
              refine T_cons (op_storeIm (ad := (adr A_69 ((k).toNat * 5)).add 4) rfl (by rw [had]) rfl rfl sz30 rfl (by rw [had]; exact hg) (by rw [had]; exact le_none (ImLe.trans (ImLe.trans hle_8 hle_27) hle_37) hg0) hlt ?_)
              rw [show ((adr A_69 ((k).toNat * 5)).add 4).block = g from by rw [had]]
              generalize hT3 : Im.put S_97 g (.cells (cs.setIfInBounds ((adr A_69 ((k).toNat * 5)).add 4).off (.slice A_87 (((c.tns.getD (j).toNat default).getD (k).toNat default).coefs).length c_88)) T fr) = T3
              obtain ⟨hle3, hch3, hrd3, hsh3⟩ := hput T3 hT3.symm
              have f_ok := RowOk.imp (s2.mono hle_98) (S' := T3) (fun cs x ⟨A, c, e, h⟩ => ⟨A, c, e, hrd3 _ _ _ h⟩)
              have f_sh : RdL (kSl (kAnyN 5)) (T3.minus S_36) cells_44 (c.tns.map shp) := RdL.imp (d := kSl (kAnyN 5)) (fun cs x h => by obtain ⟨A, c, e, h⟩ := h; exact ⟨A, c, e, hsh3 _ _ _ h⟩) (RdL.mono (Im.minus_mono hle_98) s3)
              have f_rd := hrd3 _ _ _ (s4.mono hle_98)
              have f_rs := hsh3 _ _ _ (s5.mono (Im.minus_mono hle_98))
              refine T_nil ?_
              refine N_block ?_
              refine N_then ?_
              refine C_region rfl ?_
              have hr_102 : InR .i64 (k + 1) := inR_i64 (by omega) (by omega)
              refine T_pv rfl (pv_add rfl rfl hr_102) ?_
              refine T_pv rfl (pv_move rfl) ?_
              refine T_nil ?_
              refine N_next ((k + 1, T3)) ⟨hle3, ⟨by omega, by omega, f_ok, f_sh, f_rd, f_rs⟩⟩ (by first | omega | (dsimp only; omega)) rfl ⟨rfl, rfl, rfl, rfl, rfl, rfl, trivial⟩ ⟨rfl, rfl, rfl, rfl, rfl, rfl, rfl, rfl, rfl, rfl, rfl, rfl, rfl, rfl, rfl, rfl, rfl, rfl, rfl, rfl, rfl, rfl, rfl, rfl, rfl, rfl, rfl, rfl, rfl, rfl, rfl, trivial⟩
            · -- decide (k < ((c.tns.getD (j).toNat default).length : Int)) = false
              have hx_103 := of_decide_eq_false hb_74
              refine C_exit ?_
              refine X_then ?_
              refine X_loop ?_
              refine X_block ?_
              refine N_block ?_
              refine N_then ?_
              refine C_region rfl ?_
              have hr_104 : InR .i64 (j + 1) := inR_i64 (by omega) (by omega)
              refine T_pv rfl (pv_add rfl rfl hr_104) ?_
              refine T_pv rfl (pv_move rfl) ?_
              refine T_nil ?_
              refine N_next ((j + 1, T2)) ⟨hle_73, ⟨by omega, by omega, s2, s3⟩⟩ (by first | omega | (dsimp only; omega)) rfl ⟨rfl, rfl, rfl, rfl, rfl, rfl, trivial⟩ ⟨rfl, rfl, rfl, rfl, rfl, rfl, rfl, rfl, rfl, rfl, rfl, rfl, rfl, rfl, rfl, rfl, rfl, rfl, rfl, rfl, rfl, rfl, rfl, rfl, rfl, rfl, rfl, trivial⟩
          · -- decide (j < (c.tns.length : Int)) = false
            have hx_105 := of_decide_eq_false hb_63
            refine C_exit ?_
            refine X_then ?_
            refine X_loop ?_
            refine X_block ?_
            refine N_then ?_
            refine C_seq ?_
            refine C_region rfl ?_
            refine T_pv rfl (pv_load_agg (cs := [.int .i64 c.gain, .int .u8 c.info.seq, .int .u8 c.info.shape, .int .i64 c.info.max, .slice A_11 c.info.groups.length c_12, .slice A_21 c.sections.length c_22, .slice A_31 c.steps.length c_32, .slice A_41 c.tns.length c_42, .slice A_52 c.lines.length c_53]) rfl ag37 sz37 rfl ⟨Cell.blk 101 rfl rfl, Cell.blk 101 rfl rfl, Cell.blk 101 rfl rfl, Cell.blk 101 rfl rfl, Cell.blk 101 rfl rfl, Cell.blk 101 rfl rfl, Cell.blk 101 rfl rfl, Cell.blk 101 rfl rfl, Cell.blk 101 rfl rfl, trivial⟩) ?_
            refine T_cons (op_store_any (vs := [.int .i64 c.gain, .int .u8 c.info.seq, .int .u8 c.info.shape, .int .i64 c.info.max, .slice A_11 c.info.groups.length c_12, .slice A_21 c.sections.length c_22, .slice A_31 c.steps.length c_32, .slice A_41 c.tns.length c_42, .slice A_52 c.lines.length c_53]) (cs' := [.int .i64 c.gain, .int .u8 c.info.seq, .int .u8 c.info.shape, .int .i64 c.info.max, .slice A_11 c.info.groups.length c_12, .slice A_21 c.sections.length c_22, .slice A_31 c.steps.length c_32, .slice A_41 c.tns.length c_42, .slice A_52 c.lines.length c_53]) 102 rfl rfl rfl sz37 (by simp [Value.oneCell']) rfl (Nat.le_of_ble_eq_true rfl) rfl ?_)
            refine T_nil ?_
            refine N_then ?_
            refine C_ret0 ?_
            -- ret 0: .agg #[.int .i64 c.gain, .int .u8 c.info.seq, .int .u8 c.info.shape, .int .i64 c.info.max, .slice A_11 c.info.groups.length c_12, .slice A_21 c.sections.length c_22, .slice A_31 c.steps.length c_32, .slice A_41 c.tns.length c_42, .slice A_52 c.lines.length c_53]
            refine G_freeze 103 rfl (fun S_106 hle_107 hz_108 => ?_)
            have hf_110 : RdA (kSl kGSection) (S_106.minus S_7) A_21 c_22 c.sections := (hz_108 _ (ImLe.trans (ImLe.trans hle_27 hle_37) hle_62) (kSl kGSection) _ rfl h_25.len (((h_25.mono (Im.minus_mono (ImLe.trans hle_37 hle_62))).mono (Im.minus_mono hle_107)).rd))
            refine G_freeze 104 rfl (fun S_111 hle_112 hz_113 => ?_)
            have hf_115 : RdA (kSl (kInt .i64)) (S_111.minus S_26) A_31 c_32 c.steps := (hz_113 _ (ImLe.trans (ImLe.trans hle_37 hle_62) hle_107) (kSl (kInt .i64)) _ rfl h_35.len (((h_35.mono (Im.minus_mono (ImLe.trans hle_62 hle_107))).mono (Im.minus_mono hle_112)).rd))
            refine G_freeze 105 rfl (fun S_116 hle_117 hz_118 => ?_)
            have hf_119 : RdA (kSl kGFilter) S_116 A_41 c_42 c.tns := (RowOk.frozen0 (q2.mono (ImLe.trans hle_107 hle_112)) hle_117 hz_118)
            refine G_freeze 106 rfl (fun S_120 hle_121 hz_122 => ?_)
            have hf_124 : RdA (kInt .i64) (S_120.minus S) A_52 c_53 c.lines := (hz_122 _ (ImLe.trans (ImLe.trans (ImLe.trans (ImLe.trans (ImLe.trans (ImLe.trans hle_8 hle_27) hle_37) hle_62) hle_107) hle_112) hle_117) (kInt .i64) _ rfl (RowOk.any (S' := (S_116.minus S)) (fun _ _ _ _ h => h) h_56).len (((RowOk.any (S' := (S_116.minus S)) (fun _ _ _ _ h => h) h_56).mono (Im.minus_mono hle_121)).rd))
            refine Q_ret (vs := [.agg #[.int .i64 c.gain, .int .u8 c.info.seq, .int .u8 c.info.shape, .int .i64 c.info.max, .slice A_11 c.info.groups.length c_12, .slice A_21 c.sections.length c_22, .slice A_31 c.steps.length c_32, .slice A_41 c.tns.length c_42, .slice A_52 c.lines.length c_53]]) ⟨⟨_, rfl, .inr ⟨[.int .i64 c.gain, .int .u8 c.info.seq, .int .u8 c.info.shape, .int .i64 c.info.max, .slice A_11 c.info.groups.length c_12, .slice A_21 c.sections.length c_22, .slice A_31 c.steps.length c_32, .slice A_41 c.tns.length c_42, .slice A_52 c.lines.length c_53], rfl, ag37, sz37, ⟨Cell.blk 102 rfl rfl, Cell.blk 102 rfl rfl, Cell.blk 102 rfl rfl, Cell.blk 102 rfl rfl, Cell.blk 102 rfl rfl, Cell.blk 102 rfl rfl, Cell.blk 102 rfl rfl, Cell.blk 102 rfl rfl, Cell.blk 102 rfl rfl, trivial⟩, rfl⟩⟩, trivial⟩ (L' := []) [] trivial (by simp) (by decide) (⟨_, c, rfl, rfl, ?_, ⟨_, _, _, _, _, _, _, _, _, _, rfl, hc0, h_13, h_14, h_15, (h_16.mono (ImLe.trans Im.minus_le (ImLe.trans (ImLe.trans (ImLe.trans (ImLe.trans (ImLe.trans (ImLe.trans hle_27 hle_37) hle_62) hle_107) hle_112) hle_117) hle_121))), (hf_110.mono (ImLe.trans Im.minus_le (ImLe.trans (ImLe.trans hle_112 hle_117) hle_121))), (hf_115.mono (ImLe.trans Im.minus_le (ImLe.trans hle_117 hle_121))), (hf_119.mono hle_121), (hf_124.mono Im.minus_le)⟩, ?_⟩)
            · rfl
            · exact ⟨_, _, rfl, hf_124⟩
        · -- number 15
          refine AS_op rfl (op_pv (lt_of rfl) (pv_fieldAddr rfl fl_37_1) ⟨(fun h => by cases h), ?_⟩)
          refine A_one (i := 14) (by kernel_rfl) ?_
          refine AS_op rfl (op_call (fun _ h => by cases h; exact lt_of rfl) rfl rfl rfl en26 (f_CloneI _ _ _ c.lines (hc8.mono (ImLe.trans (ImLe.trans (ImLe.trans hle_8 hle_27) hle_37) hle_48)) (by omega)) [108] trivial (by simp) (by decide) ?_)
          rintro v_132 S_130 L_133 ⟨A_125, c_126, r_127, cells_128, rfl, rfl, rfl, rfl, h_129⟩ hle_131
          have hb_134 := h_129.bd
          refine ⟨rfl, ?_⟩
          refine ⟨fun _ => (held_le ⟨rfl, rfl, trivial⟩ (ImLe.trans (ImLe.trans (ImLe.trans hle_8 hle_27) hle_37) hle_48) h0_3), ?_⟩
          refine A_one (i := 16) (by kernel_rfl) ?_
          refine AS_op rfl (op_store_any (vs := [.int .u8 c.info.seq, .int .u8 c.info.shape, .int .i64 c.info.max, .slice A_11 c.info.groups.length c_12]) (cs' := [.int .i64 c.gain, .int .u8 c.info.seq, .int .u8 c.info.shape, .int .i64 c.info.max, .slice A_11 c.info.groups.length c_12, .slice Ac5 c.sections.length cc5, .slice Ac6 c.steps.length cc6, .slice Ac7 c.tns.length cc7, .slice Ac8 c.lines.length cc8]) 101 rfl rfl rfl sz32 (by simp [Value.oneCell']) rfl (Nat.le_of_ble_eq_true rfl) rfl ?_)
          refine ⟨(fun h => by cases h), ?_⟩
          refine A_one (i := 17) (by kernel_rfl) ?_
          refine AS_op rfl (op_pv (lt_of rfl) (pv_fieldAddr rfl fl_37_2) ⟨(fun h => by cases h), ?_⟩)
          refine A_one (i := 18) (by kernel_rfl) ?_
          refine AS_op rfl (op_store_any (vs := [.slice A_21 c.sections.length c_22]) (cs' := [.int .i64 c.gain, .int .u8 c.info.seq, .int .u8 c.info.shape, .int .i64 c.info.max, .slice A_11 c.info.groups.length c_12, .slice A_21 c.sections.length c_22, .slice Ac6 c.steps.length cc6, .slice Ac7 c.tns.length cc7, .slice Ac8 c.lines.length cc8]) 101 rfl rfl rfl sz33 (by simp [Value.oneCell']) rfl (Nat.le_of_ble_eq_true rfl) rfl ?_)
          refine ⟨(fun h => by cases h), ?_⟩
          refine A_one (i := 19) (by kernel_rfl) ?_
          refine AS_op rfl (op_pv (lt_of rfl) (pv_fieldAddr rfl fl_37_3) ⟨(fun h => by cases h), ?_⟩)
          refine A_one (i := 20) (by kernel_rfl) ?_
          refine AS_op rfl (op_store_any (vs := [.slice A_31 c.steps.length c_32]) (cs' := [.int .i64 c.gain, .int .u8 c.info.seq, .int .u8 c.info.shape, .int .i64 c.info.max, .slice A_11 c.info.groups.length c_12, .slice A_21 c.sections.length c_22, .slice A_31 c.steps.length c_32, .slice Ac7 c.tns.length cc7, .slice Ac8 c.lines.length cc8]) 101 rfl rfl rfl sz34 (by simp [Value.oneCell']) rfl (Nat.le_of_ble_eq_true rfl) rfl ?_)
          refine ⟨(fun h => by cases h), ?_⟩
          refine A_one (i := 21) (by kernel_rfl) ?_
          refine AS_op rfl (op_pv (lt_of rfl) (pv_fieldAddr rfl fl_37_4) ⟨(fun h => by cases h), ?_⟩)
          refine A_one (i := 22) (by kernel_rfl) ?_
          refine AS_op rfl (op_store_any (vs := [.slice A_41 c.tns.length c_42]) (cs' := [.int .i64 c.gain, .int .u8 c.info.seq, .int .u8 c.info.shape, .int .i64 c.info.max, .slice A_11 c.info.groups.length c_12, .slice A_21 c.sections.length c_22, .slice A_31 c.steps.length c_32, .slice A_41 c.tns.length c_42, .slice Ac8 c.lines.length cc8]) 101 rfl rfl rfl sz35 (by simp [Value.oneCell']) rfl (Nat.le_of_ble_eq_true rfl) rfl ?_)
          refine ⟨(fun h => by cases h), ?_⟩
          refine A_one (i := 23) (by kernel_rfl) ?_
          refine AS_op rfl (op_pv (lt_of rfl) (pv_fieldAddr rfl fl_37_5) ⟨(fun h => by cases h), ?_⟩)
          refine A_one (i := 24) (by kernel_rfl) ?_
          refine AS_op rfl (op_store_any (vs := [.slice A_125 c.lines.length c_126]) (cs' := [.int .i64 c.gain, .int .u8 c.info.seq, .int .u8 c.info.shape, .int .i64 c.info.max, .slice A_11 c.info.groups.length c_12, .slice A_21 c.sections.length c_22, .slice A_31 c.steps.length c_32, .slice A_41 c.tns.length c_42, .slice A_125 c.lines.length c_126]) 101 rfl rfl rfl sz30 (by simp [Value.oneCell']) rfl (Nat.le_of_ble_eq_true rfl) rfl ?_)
          refine ⟨(fun h => by cases h), ?_⟩
          refine A_done (by kernel_rfl) ?_
          refine N_then ?_
          refine C_seq ?_
          refine C_seq ?_
          refine C_region rfl ?_
          refine T_pv rfl (pv_fieldAddr rfl fl_37_4) ?_
          refine T_pv rfl (pv_load rfl ag35 (Cell.blk 101 rfl rfl)) ?_
          refine T_pv rfl (pv_len rfl el35) ?_
          refine T_pv rfl (pv_move rfl) ?_
          refine T_nil ?_
          refine N_then ?_
          refine C_block ?_
          refine C_loop (fun (x : Int × Im) => (x.2, [(101, .blk g_1 [.int .i64 c.gain, .int .u8 c.info.seq, .int .u8 c.info.shape, .int .i64 c.info.max, .slice A_11 c.info.groups.length c_12, .slice A_21 c.sections.length c_22, .slice A_31 c.steps.length c_32, .slice A_41 c.tns.length c_42, .slice A_125 c.lines.length c_126] 37), (102, .blk g_2 [.int .i64 0, .int .u8 0, .int .u8 0, .int .i64 0, .slice none 0 0, .slice none 0 0, .slice none 0 0, .slice none 0 0, .slice none 0 0] 37), (103, .row (.slice A_21 c.sections.length c_22) 50 1 c.sections.length cells_24), (104, .row (.slice A_31 c.steps.length c_32) 30 1 c.steps.length cells_34), (105, .row (.slice A_41 c.tns.length c_42) 51 1 c.tns.length cells_44), (108, .row (.slice A_125 c.lines.length c_126) 3 1 c.lines.length cells_128)], [(0, .agg #[.int .i64 c.gain, .int .u8 c.info.seq, .int .u8 c.info.shape, .int .i64 c.info.max, .slice Ac4 c.info.groups.length cc4, .slice Ac5 c.sections.length cc5, .slice Ac6 c.steps.length cc6, .slice Ac7 c.tns.length cc7, .slice Ac8 c.lines.length cc8]), (1, .pointer (some ⟨g_1, 0, none⟩)), (2, .pointer (some ⟨g_2, 0, none⟩)), (6, .pointer (some ⟨g_1, 1, none⟩)), (7, .agg #[.int .u8 c.info.seq, .int .u8 c.info.shape, .int .i64 c.info.max, .slice Ac4 c.info.groups.length cc4]), (9, .pointer (some ⟨g_1, 5, none⟩)), (10, .slice Ac5 c.sections.length cc5), (12, .pointer (some ⟨g_1, 6, none⟩)), (13, .slice Ac6 c.steps.length cc6), (15, .pointer (some ⟨g_1, 7, none⟩)), (16, .slice Ac7 c.tns.length cc7), (18, .pointer (some ⟨g_1, 8, none⟩)), (19, .slice Ac8 c.lines.length cc8), (8, .agg #[.int .u8 c.info.seq, .int .u8 c.info.shape, .int .i64 c.info.max, .slice A_11 c.info.groups.length c_12]), (11, .slice A_21 c.sections.length c_22), (14, .slice A_31 c.steps.length c_32), (17, .slice A_41 c.tns.length c_42), (21, .pointer (some ⟨g_1, 1, none⟩)), (20, .slice A_125 c.lines.length c_126), (22, .pointer (some ⟨g_1, 5, none⟩)), (23, .pointer (some ⟨g_1, 6, none⟩)), (24, .pointer (some ⟨g_1, 7, none⟩)), (25, .pointer (some ⟨g_1, 8, none⟩)), (26, .pointer (some ⟨g_1, 7, none⟩)), (27, .slice A_41 c.tns.length c_42), (28, .int .i64 (c.tns.length : Int)), (29, .int .i64 x.1)])) (fun (x : Int × Im) => ImLe S_36 x.2 ∧ 0 ≤ x.1 ∧ x.1 ≤ c.tns.length ∧ RowOk (kSl kGFilter) x.2 A_41 c_42 cells_44 c.tns ∧ RdL (kSl (kAnyN 5)) (x.2.minus S_36) cells_44 (c.tns.map shp)) (fun (x : Int × Im) => (c.tns.length - x.1).toNat) ((0, S_47)) ⟨hle_48, ⟨by omega, by omega, h_45, hf_46⟩⟩ rfl ⟨rfl, rfl, rfl, rfl, rfl, rfl, trivial⟩ ⟨rfl, rfl, rfl, rfl, rfl, rfl, rfl, rfl, rfl, rfl, rfl, rfl, rfl, rfl, rfl, rfl, rfl, rfl, rfl, rfl, rfl, rfl, rfl, rfl, rfl, rfl, rfl, trivial⟩ ?_
          rintro ⟨j, T1⟩ ⟨hle_135, ⟨q0, q1, q2, q3⟩⟩
          dsimp only at *
          refine C_seq ?_
          refine C_region rfl ?_
          refine T_pv rfl (pv_lss rfl rfl) ?_
          refine T_nil ?_
          refine N_then ?_
          refine C_seq ?_
          refine C_cond rfl (fun hb_136 => ?_) (fun hb_136 => ?_)
          · -- decide (j < (c.tns.length : Int)) = true
            have hx_137 := of_decide_eq_true hb_136
            refine C_skip ?_
            refine N_then ?_
            refine C_seq ?_
            refine C_block ?_
            refine C_seq ?_
            refine C_region rfl ?_
            obtain ⟨us_138, hk_139, hcut_141, he_140⟩ := RowOk.elt q2 (i := j) (by omega) (by omega)
            obtain ⟨A_142, c_143, rfl, h_144⟩ := hk_139
            have hb_145 := h_144.bd
            refine T_pv rfl (pv_idxrow q2 rfl rfl el35 sz51 (by omega) (by omega)) ?_
            refine T_pv rfl (pv_load rfl ag51 ((he_140 _ _ 105 _ _ rfl).zero rfl)) ?_
            refine T_pv rfl (pv_assign rfl) ?_
            refine T_nil ?_
            refine N_then ?_
            refine C_seq ?_
            refine C_region rfl ?_
            refine T_pv rfl (pv_move rfl) ?_
            refine T_pv rfl (pv_len rfl el51) ?_
            refine T_pv rfl (pv_move rfl) ?_
            refine T_nil ?_
            refine N_then ?_
            refine C_block ?_
            have hsj := shape_at q3 hcut_141 (by omega) (by omega)
            have zz := z7.at_ (i := j) (by omega) (by omega)
            refine C_loop (fun (x : Int × Im) => (x.2, [(101, .blk g_1 [.int .i64 c.gain, .int .u8 c.info.seq, .int .u8 c.info.shape, .int .i64 c.info.max, .slice A_11 c.info.groups.length c_12, .slice A_21 c.sections.length c_22, .slice A_31 c.steps.length c_32, .slice A_41 c.tns.length c_42, .slice A_125 c.lines.length c_126] 37), (102, .blk g_2 [.int .i64 0, .int .u8 0, .int .u8 0, .int .i64 0, .slice none 0 0, .slice none 0 0, .slice none 0 0, .slice none 0 0, .slice none 0 0] 37), (103, .row (.slice A_21 c.sections.length c_22) 50 1 c.sections.length cells_24), (104, .row (.slice A_31 c.steps.length c_32) 30 1 c.steps.length cells_34), (105, .row (.slice A_41 c.tns.length c_42) 51 1 c.tns.length cells_44), (108, .row (.slice A_125 c.lines.length c_126) 3 1 c.lines.length cells_128)], [(0, .agg #[.int .i64 c.gain, .int .u8 c.info.seq, .int .u8 c.info.shape, .int .i64 c.info.max, .slice Ac4 c.info.groups.length cc4, .slice Ac5 c.sections.length cc5, .slice Ac6 c.steps.length cc6, .slice Ac7 c.tns.length cc7, .slice Ac8 c.lines.length cc8]), (1, .pointer (some ⟨g_1, 0, none⟩)), (2, .pointer (some ⟨g_2, 0, none⟩)), (6, .pointer (some ⟨g_1, 1, none⟩)), (7, .agg #[.int .u8 c.info.seq, .int .u8 c.info.shape, .int .i64 c.info.max, .slice Ac4 c.info.groups.length cc4]), (9, .pointer (some ⟨g_1, 5, none⟩)), (10, .slice Ac5 c.sections.length cc5), (12, .pointer (some ⟨g_1, 6, none⟩)), (13, .slice Ac6 c.steps.length cc6), (15, .pointer (some ⟨g_1, 7, none⟩)), (16, .slice Ac7 c.tns.length cc7), (18, .pointer (some ⟨g_1, 8, none⟩)), (19, .slice Ac8 c.lines.length cc8), (8, .agg #[.int .u8 c.info.seq, .int .u8 c.info.shape, .int .i64 c.info.max, .slice A_11 c.info.groups.length c_12]), (11, .slice A_21 c.sections.length c_22), (14, .slice A_31 c.steps.length c_32), (17, .slice A_41 c.tns.length c_42), (21, .pointer (some ⟨g_1, 1, none⟩)), (20, .slice A_125 c.lines.length c_126), (22, .pointer (some ⟨g_1, 5, none⟩)), (23, .pointer (some ⟨g_1, 6, none⟩)), (24, .pointer (some ⟨g_1, 7, none⟩)), (25, .pointer (some ⟨g_1, 8, none⟩)), (26, .pointer (some ⟨g_1, 7, none⟩)), (27, .slice A_41 c.tns.length c_42), (28, .int .i64 (c.tns.length : Int)), (29, .int .i64 j), (30, .bool (decide (j < (c.tns.length : Int)))), (4, .slice A_142 ((c.tns.getD (j).toNat default).length) c_143), (34, .int .i64 ((c.tns.getD (j).toNat default).length : Int)), (35, .int .i64 x.1)])) (fun (x : Int × Im) => ImLe S_36 x.2 ∧ 0 ≤ x.1 ∧ x.1 ≤ (c.tns.getD (j).toNat default).length ∧ RowOk (kSl kGFilter) x.2 A_41 c_42 cells_44 c.tns ∧ RdL (kSl (kAnyN 5)) (x.2.minus S_36) cells_44 (c.tns.map shp) ∧ RdA kGFilter x.2 A_142 c_143 (c.tns.getD (j).toNat default) ∧ RdA (kAnyN 5) (x.2.minus S_36) A_142 c_143 (shp (c.tns.getD (j).toNat default))) (fun (x : Int × Im) => ((c.tns.getD (j).toNat default).length - x.1).toNat) ((0, T1)) ⟨hle_135, ⟨by omega, by omega, q2, q3, h_144, hsj⟩⟩ rfl ⟨rfl, rfl, rfl, rfl, rfl, rfl, trivial⟩ ⟨rfl, rfl, rfl, rfl, rfl, rfl, rfl, rfl, rfl, rfl, rfl, rfl, rfl, rfl, rfl, rfl, rfl, rfl, rfl, rfl, rfl, rfl, rfl, rfl, rfl, rfl, rfl, rfl, rfl, rfl, rfl, trivial⟩ ?_
            rintro ⟨k, T2⟩ ⟨hle_146, ⟨s0, s1, s2, s3, s4, s5⟩⟩
            dsimp only at *
            refine C_seq ?_
            refine C_region rfl ?_
            refine T_pv rfl (pv_lss rfl rfl) ?_
            refine T_nil ?_
            refine N_then ?_
            refine C_seq ?_
            refine C_cond rfl (fun hb_147 => ?_) (fun hb_147 => ?_)
            · -- decide (k < ((c.tns.getD (j).toNat default).length : Int)) = true
              have hx_148 := of_decide_eq_true hb_147
              refine C_skip ?_
              refine N_then ?_
              refine C_seq ?_
              refine C_block ?_
              refine C_seq ?_
              refine C_region rfl ?_
              refine T_pv rfl (pv_move rfl) ?_
              refine T_pv rfl (pv_assign rfl) ?_
              refine T_nil ?_
              refine N_then ?_
              refine C_region rfl ?_
              refine T_pv rfl (pv_move rfl) ?_
              refine T_pv rfl (pv_move rfl) ?_
              refine T_pv rfl (pv_move rfl) ?_
              refine T_pv rfl (pv_move rfl) ?_
              obtain ⟨us_149, hk_150, he_151⟩ := RdA.elt s4 (i := k) (by omega) (by omega)
              obtain ⟨A_152, c_153, rfl, h_154, h_155, h_156⟩ := hk_150
              have hq_157 := InR.i64 h_154
              have hq_158 := InR.i64 h_155
              have hb_159 := h_156.bd
              refine T_pv rfl (pv_idx s4 rfl rfl el51 sz53 (by omega) (by omega)) ?_
              refine T_pv rfl (pv_fieldAddr rfl fl_53_4) ?_
              refine T_pv rfl (pv_load rfl ag30 ((he_151 _ _ (ImLe.refl _)).at_ 4 rfl)) ?_
              have zf : _ ≤ 2000 := zz.2.at_ (i := k) (by omega) (by omega)
              refine T_cons (op_call (fun _ h => by cases h; exact lt_of rfl) rfl rfl rfl en26 (f_CloneI _ _ _ (((c.tns.getD (j).toNat default).getD (k).toNat default).coefs) h_156 (by omega)) [109] trivial (by simp) (by decide) ?_)
              rintro v_167 S_165 L_168 ⟨A_160, c_161, r_162, cells_163, rfl, rfl, rfl, rfl, h_164⟩ hle_166
              have hb_169 := h_164.bd
              refine ⟨rfl, ?_⟩
              refine T_pv rfl (pv_idx s4 rfl rfl el51 sz53 (by omega) (by omega)) ?_
              refine T_pv rfl (pv_fieldAddr rfl fl_53_4) ?_
              refine T_freezeRow 109 rfl (fun S_170 hle_171 hz_172 => ?_)
              have hf_174 : RdA (kInt .i64) (S_170.minus T2) A_160 c_161 (((c.tns.getD (j).toNat default).getD (k).toNat default).coefs) := (hz_172 _ (ImLe.refl _) (kInt .i64) _ rfl (RowOk.any (S' := (T2.minus T2)) (fun _ _ _ _ h => h) h_164).len (((RowOk.any (S' := (T2.minus T2)) (fun _ _ _ _ h => h) h_164).mono (Im.minus_mono hle_171)).rd))
              obtain ⟨g, cs, T, fr, had, hg, hg0, hlt, hput⟩ := coef_put s4 s5 hle_171 hle_146 (k := k) (by omega) (by omega) hf_174
              refine T_cons (op_storeIm (ad := (adr A_142 ((k).toNat * 5)).add 4) rfl (by rw [had]) rfl rfl sz30 rfl (by rw [had]; exact hg) (by rw [had]; exact le_none (ImLe.trans (ImLe.trans hle_8 hle_27) hle_37) hg0) hlt ?_)
              rw [show ((adr A_142 ((k).toNat * 5)).add 4).block = g from by rw [had]]
              generalize hT3 : Im.put S_170 g (.cells (cs.setIfInBounds ((adr A_142 ((k).toNat * 5)).add 4).off (.slice A_160 (((c.tns.getD (j).toNat default).getD (k).toNat default).coefs).length c_161)) T fr) = T3
              obtain ⟨hle3, hch3, hrd3, hsh3⟩ := hput T3 hT3.symm
              have f_ok := RowOk.imp (s2.mono hle_171) (S' := T3) (fun cs x ⟨A, c, e, h⟩ => ⟨A, c, e, hrd3 _ _ _ h⟩)
              have f_sh : RdL (kSl (kAnyN 5)) (T3.minus S_36) cells_44 (c.tns.map shp) := RdL.imp (d := kSl (kAnyN 5)) (fun cs x h => by obtain ⟨A, c, e, h⟩ := h; exact ⟨A, c, e, hsh3 _ _ _ h⟩) (RdL.mono (Im.minus_mono hle_171) s3)
              have f_rd := hrd3 _ _ _ (s4.mono hle_171)
              have f_rs := hsh3 _ _ _ (s5.mono (Im.minus_mono hle_171))
              refine T_nil ?_
              refine N_block ?_
              refine N_then ?_
              refine C_region rfl ?_
              have hr_175 : InR .i64 (k + 1) := inR_i64 (by omega) (by omega)
              refine T_pv rfl (pv_add rfl rfl hr_175) ?_
              refine T_pv rfl (pv_move rfl) ?_
              refine T_nil ?_
              refine N_next ((k + 1, T3)) ⟨hle3, ⟨by omega, by omega, f_ok, f_sh, f_rd, f_rs⟩⟩ (by first | omega | (dsimp only; omega)) rfl ⟨rfl, rfl, rfl, rfl, rfl, rfl, trivial⟩ ⟨rfl, rfl, rfl, rfl, rfl, rfl, rfl, rfl, rfl, rfl, rfl, rfl, rfl, rfl, rfl, rfl, rfl, rfl, rfl, rfl, rfl, rfl, rfl, rfl, rfl, rfl, rfl, rfl, rfl, rfl, rfl, trivial⟩
            · -- decide (k < ((c.tns.getD (j).toNat default).length : Int)) = false
              have hx_176 := of_decide_eq_false hb_147
              refine C_exit ?_
              refine X_then ?_
              refine X_loop ?_
              refine X_block ?_
              refine N_block ?_
              refine N_then ?_
              refine C_region rfl ?_
              have hr_177 : InR .i64 (j + 1) := inR_i64 (by omega) (by omega)
              refine T_pv rfl (pv_add rfl rfl hr_177) ?_
              refine T_pv rfl (pv_move rfl) ?_
              refine T_nil ?_
              refine N_next ((j + 1, T2)) ⟨hle_146, ⟨by omega, by omega, s2, s3⟩⟩ (by first | omega | (dsimp only; omega)) rfl ⟨rfl, rfl, rfl, rfl, rfl, rfl, trivial⟩ ⟨rfl, rfl, rfl, rfl, rfl, rfl, rfl, rfl, rfl, rfl, rfl, rfl, rfl, rfl, rfl, rfl, rfl, rfl, rfl, rfl, rfl, rfl, rfl, rfl, rfl, rfl, rfl, trivial⟩
          · -- decide (j < (c.tns.length : Int)) = false
            have hx_178 := of_decide_eq_false hb_136
            refine C_exit ?_
            refine X_then ?_
            refine X_loop ?_
            refine X_block ?_
            refine N_then ?_
            refine C_seq ?_
            refine C_region rfl ?_
            refine T_pv rfl (pv_load_agg (cs := [.int .i64 c.gain, .int .u8 c.info.seq, .int .u8 c.info.shape, .int .i64 c.info.max, .slice A_11 c.info.groups.length c_12, .slice A_21 c.sections.length c_22, .slice A_31 c.steps.length c_32, .slice A_41 c.tns.length c_42, .slice A_125 c.lines.length c_126]) rfl ag37 sz37 rfl ⟨Cell.blk 101 rfl rfl, Cell.blk 101 rfl rfl, Cell.blk 101 rfl rfl, Cell.blk 101 rfl rfl, Cell.blk 101 rfl rfl, Cell.blk 101 rfl rfl, Cell.blk 101 rfl rfl, Cell.blk 101 rfl rfl, Cell.blk 101 rfl rfl, trivial⟩) ?_
            refine T_cons (op_store_any (vs := [.int .i64 c.gain, .int .u8 c.info.seq, .int .u8 c.info.shape, .int .i64 c.info.max, .slice A_11 c.info.groups.length c_12, .slice A_21 c.sections.length c_22, .slice A_31 c.steps.length c_32, .slice A_41 c.tns.length c_42, .slice A_125 c.lines.length c_126]) (cs' := [.int .i64 c.gain, .int .u8 c.info.seq, .int .u8 c.info.shape, .int .i64 c.info.max, .slice A_11 c.info.groups.length c_12, .slice A_21 c.sections.length c_22, .slice A_31 c.steps.length c_32, .slice A_41 c.tns.length c_42, .slice A_125 c.lines.length c_126]) 102 rfl rfl rfl sz37 (by simp [Value.oneCell']) rfl (Nat.le_of_ble_eq_true rfl) rfl ?_)
            refine T_nil ?_
            refine N_then ?_
            refine C_ret0 ?_
            -- ret 1: .agg #[.int .i64 c.gain, .int .u8 c.info.seq, .int .u8 c.info.shape, .int .i64 c.info.max, .slice A_11 c.info.groups.length c_12, .slice A_21 c.sections.length c_22, .slice A_31 c.steps.length c_32, .slice A_41 c.tns.length c_42, .slice A_125 c.lines.length c_126]
            refine G_freeze 103 rfl (fun S_179 hle_180 hz_181 => ?_)
            have hf_183 : RdA (kSl kGSection) (S_179.minus S_7) A_21 c_22 c.sections := (hz_181 _ (ImLe.trans (ImLe.trans hle_27 hle_37) hle_135) (kSl kGSection) _ rfl h_25.len (((h_25.mono (Im.minus_mono (ImLe.trans hle_37 hle_135))).mono (Im.minus_mono hle_180)).rd))
            refine G_freeze 104 rfl (fun S_184 hle_185 hz_186 => ?_)
            have hf_188 : RdA (kSl (kInt .i64)) (S_184.minus S_26) A_31 c_32 c.steps := (hz_186 _ (ImLe.trans (ImLe.trans hle_37 hle_135) hle_180) (kSl (kInt .i64)) _ rfl h_35.len (((h_35.mono (Im.minus_mono (ImLe.trans hle_135 hle_180))).mono (Im.minus_mono hle_185)).rd))
            refine G_freeze 105 rfl (fun S_189 hle_190 hz_191 => ?_)
            have hf_192 : RdA (kSl kGFilter) S_189 A_41 c_42 c.tns := (RowOk.frozen0 (q2.mono (ImLe.trans hle_180 hle_185)) hle_190 hz_191)
            refine G_freeze 108 rfl (fun S_193 hle_194 hz_195 => ?_)
            have hf_197 : RdA (kInt .i64) (S_193.minus S) A_125 c_126 c.lines := (hz_195 _ (ImLe.trans (ImLe.trans (ImLe.trans (ImLe.trans (ImLe.trans (ImLe.trans hle_8 hle_27) hle_37) hle_135) hle_180) hle_185) hle_190) (kInt .i64) _ rfl (RowOk.any (S' := (S_189.minus S)) (fun _ _ _ _ h => h) h_129).len (((RowOk.any (S' := (S_189.minus S)) (fun _ _ _ _ h => h) h_129).mono (Im.minus_mono hle_194)).rd))
            refine Q_ret (vs := [.agg #[.int .i64 c.gain, .int .u8 c.info.seq, .int .u8 c.info.shape, .int .i64 c.info.max, .slice A_11 c.info.groups.length c_12, .slice A_21 c.sections.length c_22, .slice A_31 c.steps.length c_32, .slice A_41 c.tns.length c_42, .slice A_125 c.lines.length c_126]]) ⟨⟨_, rfl, .inr ⟨[.int .i64 c.gain, .int .u8 c.info.seq, .int .u8 c.info.shape, .int .i64 c.info.max, .slice A_11 c.info.groups.length c_12, .slice A_21 c.sections.length c_22, .slice A_31 c.steps.length c_32, .slice A_41 c.tns.length c_42, .slice A_125 c.lines.length c_126], rfl, ag37, sz37, ⟨Cell.blk 102 rfl rfl, Cell.blk 102 rfl rfl, Cell.blk 102 rfl rfl, Cell.blk 102 rfl rfl, Cell.blk 102 rfl rfl, Cell.blk 102 rfl rfl, Cell.blk 102 rfl rfl, Cell.blk 102 rfl rfl, Cell.blk 102 rfl rfl, trivial⟩, rfl⟩⟩, trivial⟩ (L' := []) [] trivial (by simp) (by decide) (⟨_, c, rfl, rfl, ?_, ⟨_, _, _, _, _, _, _, _, _, _, rfl, hc0, h_13, h_14, h_15, (h_16.mono (ImLe.trans Im.minus_le (ImLe.trans (ImLe.trans (ImLe.trans (ImLe.trans (ImLe.trans (ImLe.trans hle_27 hle_37) hle_135) hle_180) hle_185) hle_190) hle_194))), (hf_183.mono (ImLe.trans Im.minus_le (ImLe.trans (ImLe.trans hle_185 hle_190) hle_194))), (hf_188.mono (ImLe.trans Im.minus_le (ImLe.trans hle_190 hle_194))), (hf_192.mono hle_194), (hf_197.mono Im.minus_le)⟩, ?_⟩)
            · rfl
            · exact ⟨_, _, rfl, hf_197⟩
      · -- number 15
        refine AS_op rfl (op_pv (lt_of rfl) (pv_fieldAddr rfl fl_37_1) ⟨(fun h => by cases h), ?_⟩)
        refine A_one (i := 11) (by kernel_rfl) ?_
        refine AS_op rfl (op_call (fun _ h => by cases h; exact lt_of rfl) rfl rfl rfl en25 (f_twinsF _ _ _ c.tns (hc7.mono (ImLe.trans (ImLe.trans hle_8 hle_27) hle_37)) z6 z7) [110] trivial (by simp) (by decide) ?_)
        rintro v_206 S_204 L_207 ⟨A_198, c_199, r_200, cells_201, rfl, rfl, rfl, h_202, hf_203⟩ hle_205
        have hb_208 := h_202.bd
        refine ⟨rfl, ?_⟩
        refine ⟨fun _ => (held_le ⟨rfl, rfl, trivial⟩ (ImLe.trans (ImLe.trans (ImLe.trans hle_8 hle_27) hle_37) hle_205) h0_3), ?_⟩
        refine A_one (i := 14) (by kernel_rfl) ?_
        refine AS_op rfl (op_call (fun _ h => by cases h; exact lt_of rfl) rfl rfl rfl en26 (f_CloneI _ _ _ c.lines (hc8.mono (ImLe.trans (ImLe.trans (ImLe.trans hle_8 hle_27) hle_37) hle_205)) (by omega)) [111] trivial (by simp) (by decide) ?_)
        rintro v_216 S_214 L_217 ⟨A_209, c_210, r_211, cells_212, rfl, rfl, rfl, rfl, h_213⟩ hle_215
        have hb_218 := h_213.bd
        refine ⟨rfl, ?_⟩
        refine ⟨fun _ => (held_le ⟨rfl, rfl, trivial⟩ (ImLe.trans (ImLe.trans (ImLe.trans hle_8 hle_27) hle_37) hle_205) h0_3), ?_⟩
        refine A_one (i := 16) (by kernel_rfl) ?_
        refine AS_op rfl (op_store_any (vs := [.int .u8 c.info.seq, .int .u8 c.info.shape, .int .i64 c.info.max, .slice A_11 c.info.groups.length c_12]) (cs' := [.int .i64 c.gain, .int .u8 c.info.seq, .int .u8 c.info.shape, .int .i64 c.info.max, .slice A_11 c.info.groups.length c_12, .slice Ac5 c.sections.length cc5, .slice Ac6 c.steps.length cc6, .slice Ac7 c.tns.length cc7, .slice Ac8 c.lines.length cc8]) 101 rfl rfl rfl sz32 (by simp [Value.oneCell']) rfl (Nat.le_of_ble_eq_true rfl) rfl ?_)
        refine ⟨(fun h => by cases h), ?_⟩
        refine A_one (i := 17) (by kernel_rfl) ?_
        refine AS_op rfl (op_pv (lt_of rfl) (pv_fieldAddr rfl fl_37_2) ⟨(fun h => by cases h), ?_⟩)
        refine A_one (i := 18) (by kernel_rfl) ?_
        refine AS_op rfl (op_store_any (vs := [.slice A_21 c.sections.length c_22]) (cs' := [.int .i64 c.gain, .int .u8 c.info.seq, .int .u8 c.info.shape, .int .i64 c.info.max, .slice A_11 c.info.groups.length c_12, .slice A_21 c.sections.length c_22, .slice Ac6 c.steps.length cc6, .slice Ac7 c.tns.length cc7, .slice Ac8 c.lines.length cc8]) 101 rfl rfl rfl sz33 (by simp [Value.oneCell']) rfl (Nat.le_of_ble_eq_true rfl) rfl ?_)
        refine ⟨(fun h => by cases h), ?_⟩
        refine A_one (i := 19) (by kernel_rfl) ?_
        refine AS_op rfl (op_pv (lt_of rfl) (pv_fieldAddr rfl fl_37_3) ⟨(fun h => by cases h), ?_⟩)
        refine A_one (i := 20) (by kernel_rfl) ?_
        refine AS_op rfl (op_store_any (vs := [.slice A_31 c.steps.length c_32]) (cs' := [.int .i64 c.gain, .int .u8 c.info.seq, .int .u8 c.info.shape, .int .i64 c.info.max, .slice A_11 c.info.groups.length c_12, .slice A_21 c.sections.length c_22, .slice A_31 c.steps.length c_32, .slice Ac7 c.tns.length cc7, .slice Ac8 c.lines.length cc8]) 101 rfl rfl rfl sz34 (by simp [Value.oneCell']) rfl (Nat.le_of_ble_eq_true rfl) rfl ?_)
        refine ⟨(fun h => by cases h), ?_⟩
        refine A_one (i := 21) (by kernel_rfl) ?_
        refine AS_op rfl (op_pv (lt_of rfl) (pv_fieldAddr rfl fl_37_4) ⟨(fun h => by cases h), ?_⟩)
        refine A_one (i := 22) (by kernel_rfl) ?_
        refine AS_op rfl (op_store_any (vs := [.slice A_198 c.tns.length c_199]) (cs' := [.int .i64 c.gain, .int .u8 c.info.seq, .int .u8 c.info.shape, .int .i64 c.info.max, .slice A_11 c.info.groups.length c_12, .slice A_21 c.sections.length c_22, .slice A_31 c.steps.length c_32, .slice A_198 c.tns.length c_199, .slice Ac8 c.lines.length cc8]) 101 rfl rfl rfl sz35 (by simp [Value.oneCell']) rfl (Nat.le_of_ble_eq_true rfl) rfl ?_)
        refine ⟨(fun h => by cases h), ?_⟩
        refine A_one (i := 23) (by kernel_rfl) ?_
        refine AS_op rfl (op_pv (lt_of rfl) (pv_fieldAddr rfl fl_37_5) ⟨(fun h => by cases h), ?_⟩)
        refine A_one (i := 24) (by kernel_rfl) ?_
        refine AS_op rfl (op_store_any (vs := [.slice A_209 c.lines.length c_210]) (cs' := [.int .i64 c.gain, .int .u8 c.info.seq, .int .u8 c.info.shape, .int .i64 c.info.max, .slice A_11 c.info.groups.length c_12, .slice A_21 c.sections.length c_22, .slice A_31 c.steps.length c_32, .slice A_198 c.tns.length c_199, .slice A_209 c.lines.length c_210]) 101 rfl rfl rfl sz30 (by simp [Value.oneCell']) rfl (Nat.le_of_ble_eq_true rfl) rfl ?_)
        refine ⟨(fun h => by cases h), ?_⟩
        refine A_done (by kernel_rfl) ?_
        refine N_then ?_
        refine C_seq ?_
        refine C_seq ?_
        refine C_region rfl ?_
        refine T_pv rfl (pv_fieldAddr rfl fl_37_4) ?_
        refine T_pv rfl (pv_load rfl ag35 (Cell.blk 101 rfl rfl)) ?_
        refine T_pv rfl (pv_len rfl el35) ?_
        refine T_pv rfl (pv_move rfl) ?_
        refine T_nil ?_
        refine N_then ?_
        refine C_block ?_
        refine C_loop (fun (x : Int × Im) => (x.2, [(101, .blk g_1 [.int .i64 c.gain, .int .u8 c.info.seq, .int .u8 c.info.shape, .int .i64 c.info.max, .slice A_11 c.info.groups.length c_12, .slice A_21 c.sections.length c_22, .slice A_31 c.steps.length c_32, .slice A_198 c.tns.length c_199, .slice A_209 c.lines.length c_210] 37), (102, .blk g_2 [.int .i64 0, .int .u8 0, .int .u8 0, .int .i64 0, .slice none 0 0, .slice none 0 0, .slice none 0 0, .slice none 0 0, .slice none 0 0] 37), (103, .row (.slice A_21 c.sections.length c_22) 50 1 c.sections.length cells_24), (104, .row (.slice A_31 c.steps.length c_32) 30 1 c.steps.length cells_34), (110, .row (.slice A_198 c.tns.length c_199) 51 1 c.tns.length cells_201), (111, .row (.slice A_209 c.lines.length c_210) 3 1 c.lines.length cells_212)], [(0, .agg #[.int .i64 c.gain, .int .u8 c.info.seq, .int .u8 c.info.shape, .int .i64 c.info.max, .slice Ac4 c.info.groups.length cc4, .slice Ac5 c.sections.length cc5, .slice Ac6 c.steps.length cc6, .slice Ac7 c.tns.length cc7, .slice Ac8 c.lines.length cc8]), (1, .pointer (some ⟨g_1, 0, none⟩)), (2, .pointer (some ⟨g_2, 0, none⟩)), (6, .pointer (some ⟨g_1, 1, none⟩)), (7, .agg #[.int .u8 c.info.seq, .int .u8 c.info.shape, .int .i64 c.info.max, .slice Ac4 c.info.groups.length cc4]), (9, .pointer (some ⟨g_1, 5, none⟩)), (10, .slice Ac5 c.sections.length cc5), (12, .pointer (some ⟨g_1, 6, none⟩)), (13, .slice Ac6 c.steps.length cc6), (15, .pointer (some ⟨g_1, 7, none⟩)), (16, .slice Ac7 c.tns.length cc7), (18, .pointer (some ⟨g_1, 8, none⟩)), (19, .slice Ac8 c.lines.length cc8), (8, .agg #[.int .u8 c.info.seq, .int .u8 c.info.shape, .int .i64 c.info.max, .slice A_11 c.info.groups.length c_12]), (11, .slice A_21 c.sections.length c_22), (14, .slice A_31 c.steps.length c_32), (21, .pointer (some ⟨g_1, 1, none⟩)), (17, .slice A_198 c.tns.length c_199), (20, .slice A_209 c.lines.length c_210), (22, .pointer (some ⟨g_1, 5, none⟩)), (23, .pointer (some ⟨g_1, 6, none⟩)), (24, .pointer (some ⟨g_1, 7, none⟩)), (25, .pointer (some ⟨g_1, 8, none⟩)), (26, .pointer (some ⟨g_1, 7, none⟩)), (27, .slice A_198 c.tns.length c_199), (28, .int .i64 (c.tns.length : Int)), (29, .int .i64 x.1)])) (fun (x : Int × Im) => ImLe S_36 x.2 ∧ 0 ≤ x.1 ∧ x.1 ≤ c.tns.length ∧ RowOk (kSl kGFilter) x.2 A_198 c_199 cells_201 c.tns ∧ RdL (kSl (kAnyN 5)) (x.2.minus S_36) cells_201 (c.tns.map shp)) (fun (x : Int × Im) => (c.tns.length - x.1).toNat) ((0, S_204)) ⟨hle_205, ⟨by omega, by omega, h_202, hf_203⟩⟩ rfl ⟨rfl, rfl, rfl, rfl, rfl, rfl, trivial⟩ ⟨rfl, rfl, rfl, rfl, rfl, rfl, rfl, rfl, rfl, rfl, rfl, rfl, rfl, rfl, rfl, rfl, rfl, rfl, rfl, rfl, rfl, rfl, rfl, rfl, rfl, rfl, rfl, trivial⟩ ?_
        rintro ⟨j, T1⟩ ⟨hle_219, ⟨q0, q1, q2, q3⟩⟩
        dsimp only at *
        refine C_seq ?_
        refine C_region rfl ?_
        refine T_pv rfl (pv_lss rfl rfl) ?_
        refine T_nil ?_
        refine N_then ?_
        refine C_seq ?_
        refine C_cond rfl (fun hb_220 => ?_) (fun hb_220 => ?_)
        · -- decide (j < (c.tns.length : Int)) = true
          have hx_221 := of_decide_eq_true hb_220
          refine C_skip ?_
          refine N_then ?_
          refine C_seq ?_
          refine C_block ?_
          refine C_seq ?_
          refine C_region rfl ?_
          obtain ⟨us_222, hk_223, hcut_225, he_224⟩ := RowOk.elt q2 (i := j) (by omega) (by omega)
          obtain ⟨A_226, c_227, rfl, h_228⟩ := hk_223
          have hb_229 := h_228.bd
          refine T_pv rfl (pv_idxrow q2 rfl rfl el35 sz51 (by omega) (by omega)) ?_
          refine T_pv rfl (pv_load rfl ag51 ((he_224 _ _ 110 _ _ rfl).zero rfl)) ?_
          refine T_pv rfl (pv_assign rfl) ?_
          refine T_nil ?_
          refine N_then ?_
          refine C_seq ?_
          refine C_region rfl ?_
          refine T_pv rfl (pv_move rfl) ?_
          refine T_pv rfl (pv_len rfl el51) ?_
          refine T_pv rfl (pv_move rfl) ?_
          refine T_nil ?_
          refine N_then ?_
          refine C_block ?_
          have hsj := shape_at q3 hcut_225 (by omega) (by omega)
          have zz := z7.at_ (i := j) (by omega) (by omega)
          refine C_loop (fun (x : Int × Im) => (x.2, [(101, .blk g_1 [.int .i64 c.gain, .int .u8 c.info.seq, .int .u8 c.info.shape, .int .i64 c.info.max, .slice A_11 c.info.groups.length c_12, .slice A_21 c.sections.length c_22, .slice A_31 c.steps.length c_32, .slice A_198 c.tns.length c_199, .slice A_209 c.lines.length c_210] 37), (102, .blk g_2 [.int .i64 0, .int .u8 0, .int .u8 0, .int .i64 0, .slice none 0 0, .slice none 0 0, .slice none 0 0, .slice none 0 0, .slice none 0 0] 37), (103, .row (.slice A_21 c.sections.length c_22) 50 1 c.sections.length cells_24), (104, .row (.slice A_31 c.steps.length c_32) 30 1 c.steps.length cells_34), (110, .row (.slice A_198 c.tns.length c_199) 51 1 c.tns.length cells_201), (111, .row (.slice A_209 c.lines.length c_210) 3 1 c.lines.length cells_212)], [(0, .agg #[.int .i64 c.gain, .int .u8 c.info.seq, .int .u8 c.info.shape, .int .i64 c.info.max, .slice Ac4 c.info.groups.length cc4, .slice Ac5 c.sections.length cc5, .slice Ac6 c.steps.length cc6, .slice Ac7 c.tns.length cc7, .slice Ac8 c.lines.length cc8]), (1, .pointer (some ⟨g_1, 0, none⟩)), (2, .pointer (some ⟨g_2, 0, none⟩)), (6, .pointer (some ⟨g_1, 1, none⟩)), (7, .agg #[.int .u8 c.info.seq, .int .u8 c.info.shape, .int .i64 c.info.max, .slice Ac4 c.info.groups.length cc4]), (9, .pointer (some ⟨g_1, 5, none⟩)), (10, .slice Ac5 c.sections.length cc5), (12, .pointer (some ⟨g_1, 6, none⟩)), (13, .slice Ac6 c.steps.length cc6), (15, .pointer (some ⟨g_1, 7, none⟩)), (16, .slice Ac7 c.tns.length cc7), (18, .pointer (some ⟨g_1, 8, none⟩)), (19, .slice Ac8 c.lines.length cc8), (8, .agg #[.int .u8 c.info.seq, .int .u8 c.info.shape, .int .i64 c.info.max, .slice A_11 c.info.groups.length c_12]), (11, .slice A_21 c.sections.length c_22), (14, .slice A_31 c.steps.length c_32), (21, .pointer (some ⟨g_1, 1, none⟩)), (17, .slice A_198 c.tns.length c_199), (20, .slice A_209 c.lines.length c_210), (22, .pointer (some ⟨g_1, 5, none⟩)), (23, .pointer (some ⟨g_1, 6, none⟩)), (24, .pointer (some ⟨g_1, 7, none⟩)), (25, .pointer (some ⟨g_1, 8, none⟩)), (26, .pointer (some ⟨g_1, 7, none⟩)), (27, .slice A_198 c.tns.length c_199), (28, .int .i64 (c.tns.length : Int)), (29, .int .i64 j), (30, .bool (decide (j < (c.tns.length : Int)))), (4, .slice A_226 ((c.tns.getD (j).toNat default).length) c_227), (34, .int .i64 ((c.tns.getD (j).toNat default).length : Int)), (35, .int .i64 x.1)])) (fun (x : Int × Im) => ImLe S_36 x.2 ∧ 0 ≤ x.1 ∧ x.1 ≤ (c.tns.getD (j).toNat default).length ∧ RowOk (kSl kGFilter) x.2 A_198 c_199 cells_201 c.tns ∧ RdL (kSl (kAnyN 5)) (x.2.minus S_36) cells_201 (c.tns.map shp) ∧ RdA kGFilter x.2 A_226 c_227 (c.tns.getD (j).toNat default) ∧ RdA (kAnyN 5) (x.2.minus S_36) A_226 c_227 (shp (c.tns.getD (j).toNat default))) (fun (x : Int × Im) => ((c.tns.getD (j).toNat default).length - x.1).toNat) ((0, T1)) ⟨hle_219, ⟨by omega, by omega, q2, q3, h_228, hsj⟩⟩ rfl ⟨rfl, rfl, rfl, rfl, rfl, rfl, trivial⟩ ⟨rfl, rfl, rfl, rfl, rfl, rfl, rfl, rfl, rfl, rfl, rfl, rfl, rfl, rfl, rfl, rfl, rfl, rfl, rfl, rfl, rfl, rfl, rfl, rfl, rfl, rfl, rfl, rfl, rfl, rfl, rfl, trivial⟩ ?_
          rintro ⟨k, T2⟩ ⟨hle_230, ⟨s0, s1, s2, s3, s4, s5⟩⟩
          dsimp only at *
          refine C_seq ?_
          refine C_region rfl ?_
          refine T_pv rfl (pv_lss rfl rfl) ?_
          refine T_nil ?_
          refine N_then ?_
          refine C_seq ?_
          refine C_cond rfl (fun hb_231 => ?_) (fun hb_231 => ?_)
          · -- decide (k < ((c.tns.getD (j).toNat default).length : Int)) = true
            have hx_232 := of_decide_eq_true hb_231
            refine C_skip ?_
            refine N_then ?_
            refine C_seq ?_
            refine C_block ?_
            refine C_seq ?_
            refine C_region rfl ?_
            refine T_pv rfl (pv_move rfl) ?_
            refine T_pv rfl (pv_assign rfl) ?_
            refine T_nil ?_
            refine N_then ?_
            refine C_region rfl ?_
            refine T_pv rfl (pv_move rfl) ?_
            refine T_pv rfl (pv_move rfl) ?_
            refine T_pv rfl (pv_move rfl) ?_
            refine T_pv rfl (pv_move rfl) ?_
            obtain ⟨us_233, hk_234, he_235⟩ := RdA.elt s4 (i := k) (by omega) (by omega)
            obtain ⟨A_236, c_237, rfl, h_238, h_239, h_240⟩ := hk_234
            have hq_241 := InR.i64 h_238
            have hq_242 := InR.i64 h_239
            have hb_243 := h_240.bd
            refine T_pv rfl (pv_idx s4 rfl rfl el51 sz53 (by omega) (by omega)) ?_
            refine T_pv rfl (pv_fieldAddr rfl fl_53_4) ?_
            refine T_pv rfl (pv_load rfl ag30 ((he_235 _ _ (ImLe.refl _)).at_ 4 rfl)) ?_
            have zf : _ ≤ 2000 := zz.2.at_ (i := k) (by omega) (by omega)
            refine T_cons (op_call (fun _ h => by cases h; exact lt_of rfl) rfl rfl rfl en26 (f_CloneI _ _ _ (((c.tns.getD (j).toNat default).getD (k).toNat default).coefs) h_240 (by omega)) [112] trivial (by simp) (by decide) ?_)
            rintro v_251 S_249 L_252 ⟨A_244, c_245, r_246, cells_247, rfl, rfl, rfl, rfl, h_248⟩ hle_250
            have hb_253 := h_248.bd
            refine ⟨rfl, ?_⟩
            refine T_pv rfl (pv_idx s4 rfl rfl el51 sz53 (by omega) (by omega)) ?_
            refine T_pv rfl (pv_fieldAddr rfl fl_53_4) ?_
            refine T_freezeRow 112 rfl (fun S_254 hle_255 hz_256 => ?_)
            have hf_258 : RdA (kInt .i64) (S_254.minus T2) A_244 c_245 (((c.tns.getD (j).toNat default).getD (k).toNat default).coefs) := (hz_256 _ (ImLe.refl _) (kInt .i64) _ rfl (RowOk.any (S' := (T2.minus T2)) (fun _ _ _ _ h => h) h_248).len (((RowOk.any (S' := (T2.minus T2)) (fun _ _ _ _ h => h) h_248).mono (Im.minus_mono hle_255)).rd))
            obtain ⟨g, cs, T, fr, had, hg, hg0, hlt, hput⟩ := coef_put s4 s5 hle_255 hle_230 (k := k) (by omega) (by omega) hf_258
            refine T_cons (op_storeIm (ad := (adr A_226 ((k).toNat * 5)).add 4) rfl (by rw [had]) rfl rfl sz30 rfl (by rw [had]; exact hg) (by rw [had]; exact le_none (ImLe.trans (ImLe.trans hle_8 hle_27) hle_37) hg0) hlt ?_)
            rw [show ((adr A_226 ((k).toNat * 5)).add 4).block = g from by rw [had]]
            generalize hT3 : Im.put S_254 g (.cells (cs.setIfInBounds ((adr A_226 ((k).toNat * 5)).add 4).off (.slice A_244 (((c.tns.getD (j).toNat default).getD (k).toNat default).coefs).length c_245)) T fr) = T3
            obtain ⟨hle3, hch3, hrd3, hsh3⟩ := hput T3 hT3.symm
            have f_ok := RowOk.imp (s2.mono hle_255) (S' := T3) (fun cs x ⟨A, c, e, h⟩ => ⟨A, c, e, hrd3 _ _ _ h⟩)
            have f_sh : RdL (kSl (kAnyN 5)) (T3.minus S_36) cells_201 (c.tns.map shp) := RdL.imp (d := kSl (kAnyN 5)) (fun cs x h => by obtain ⟨A, c, e, h⟩ := h; exact ⟨A, c, e, hsh3 _ _ _ h⟩) (RdL.mono (Im.minus_mono hle_255) s3)
            have f_rd := hrd3 _ _ _ (s4.mono hle_255)
            have f_rs := hsh3 _ _ _ (s5.mono (Im.minus_mono hle_255))
            refine T_nil ?_
            refine N_block ?_
            refine N_then ?_
            refine C_region rfl ?_
            have hr_259 : InR .i64 (k + 1) := inR_i64 (by omega) (by omega)
            refine T_pv rfl (pv_add rfl rfl hr_259) ?_
            refine T_pv rfl (pv_move rfl) ?_
            refine T_nil ?_
            refine N_next ((k + 1, T3)) ⟨hle3, ⟨by omega, by omega, f_ok, f_sh, f_rd, f_rs⟩⟩ (by first | omega | (dsimp only; omega)) rfl ⟨rfl, rfl, rfl, rfl, rfl, rfl, trivial⟩ ⟨rfl, rfl, rfl, rfl, rfl, rfl, rfl, rfl, rfl, rfl, rfl, rfl, rfl, rfl, rfl, rfl, rfl, rfl, rfl, rfl, rfl, rfl, rfl, rfl, rfl, rfl, rfl, rfl, rfl, rfl, rfl, trivial⟩
          · -- decide (k < ((c.tns.getD (j).toNat default).length : Int)) = false
            have hx_260 := of_decide_eq_false hb_231
            refine C_exit ?_
            refine X_then ?_
            refine X_loop ?_
            refine X_block ?_
            refine N_block ?_
            refine N_then ?_
            refine C_region rfl ?_
            have hr_261 : InR .i64 (j + 1) := inR_i64 (by omega) (by omega)
            refine T_pv rfl (pv_add rfl rfl hr_261) ?_
            refine T_pv rfl (pv_move rfl) ?_
            refine T_nil ?_
            refine N_next ((j + 1, T2)) ⟨hle_230, ⟨by omega, by omega, s2, s3⟩⟩ (by first | omega | (dsimp only; omega)) rfl ⟨rfl, rfl, rfl, rfl, rfl, rfl, trivial⟩ ⟨rfl, rfl, rfl, rfl, rfl, rfl, rfl, rfl, rfl, rfl, rfl, rfl, rfl, rfl, rfl, rfl, rfl, rfl, rfl, rfl, rfl, rfl, rfl, rfl, rfl, rfl, rfl, trivial⟩
        · -- decide (j < (c.tns.length : Int)) = false
          have hx_262 := of_decide_eq_false hb_220
          refine C_exit ?_
          refine X_then ?_
          refine X_loop ?_
          refine X_block ?_
          refine N_then ?_
          refine C_seq ?_
          refine C_region rfl ?_
          refine T_pv rfl (pv_load_agg (cs := [.int .i64 c.gain, .int .u8 c.info.seq, .int .u8 c.info.shape, .int .i64 c.info.max, .slice A_11 c.info.groups.length c_12, .slice A_21 c.sections.length c_22, .slice A_31 c.steps.length c_32, .slice A_198 c.tns.length c_199, .slice A_209 c.lines.length c_210]) rfl ag37 sz37 rfl ⟨Cell.blk 101 rfl rfl, Cell.blk 101 rfl rfl, Cell.blk 101 rfl rfl, Cell.blk 101 rfl rfl, Cell.blk 101 rfl rfl, Cell.blk 101 rfl rfl, Cell.blk 101 rfl rfl, Cell.blk 101 rfl rfl, Cell.blk 101 rfl rfl, trivial⟩) ?_
          refine T_cons (op_store_any (vs := [.int .i64 c.gain, .int .u8 c.info.seq, .int .u8 c.info.shape, .int .i64 c.info.max, .slice A_11 c.info.groups.length c_12, .slice A_21 c.sections.length c_22, .slice A_31 c.steps.length c_32, .slice A_198 c.tns.length c_199, .slice A_209 c.lines.length c_210]) (cs' := [.int .i64 c.gain, .int .u8 c.info.seq, .int .u8 c.info.shape, .int .i64 c.info.max, .slice A_11 c.info.groups.length c_12, .slice A_21 c.sections.length c_22, .slice A_31 c.steps.length c_32, .slice A_198 c.tns.length c_199, .slice A_209 c.lines.length c_210]) 102 rfl rfl rfl sz37 (by simp [Value.oneCell']) rfl (Nat.le_of_ble_eq_true rfl) rfl ?_)
          refine T_nil ?_
          refine N_then ?_
          refine C_ret0 ?_
          -- ret 2: .agg #[.int .i64 c.gain, .int .u8 c.info.seq, .int .u8 c.info.shape, .int .i64 c.info.max, .slice A_11 c.info.groups.length c_12, .slice A_21 c.sections.length c_22, .slice A_31 c.steps.length c_32, .slice A_198 c.tns.length c_199, .slice A_209 c.lines.length c_210]
          refine G_freeze 103 rfl (fun S_263 hle_264 hz_265 => ?_)
          have hf_267 : RdA (kSl kGSection) (S_263.minus S_7) A_21 c_22 c.sections := (hz_265 _ (ImLe.trans (ImLe.trans hle_27 hle_37) hle_219) (kSl kGSection) _ rfl h_25.len (((h_25.mono (Im.minus_mono (ImLe.trans hle_37 hle_219))).mono (Im.minus_mono hle_264)).rd))
          refine G_freeze 104 rfl (fun S_268 hle_269 hz_270 => ?_)
          have hf_272 : RdA (kSl (kInt .i64)) (S_268.minus S_26) A_31 c_32 c.steps := (hz_270 _ (ImLe.trans (ImLe.trans hle_37 hle_219) hle_264) (kSl (kInt .i64)) _ rfl h_35.len (((h_35.mono (Im.minus_mono (ImLe.trans hle_219 hle_264))).mono (Im.minus_mono hle_269)).rd))
          refine G_freeze 110 rfl (fun S_273 hle_274 hz_275 => ?_)
          have hf_276 : RdA (kSl kGFilter) S_273 A_198 c_199 c.tns := (RowOk.frozen0 (q2.mono (ImLe.trans hle_264 hle_269)) hle_274 hz_275)
          refine G_freeze 111 rfl (fun S_277 hle_278 hz_279 => ?_)
          have hf_281 : RdA (kInt .i64) (S_277.minus S) A_209 c_210 c.lines := (hz_279 _ (ImLe.trans (ImLe.trans (ImLe.trans (ImLe.trans (ImLe.trans (ImLe.trans hle_8 hle_27) hle_37) hle_219) hle_264) hle_269) hle_274) (kInt .i64) _ rfl (RowOk.any (S' := (S_273.minus S)) (fun _ _ _ _ h => h) h_213).len (((RowOk.any (S' := (S_273.minus S)) (fun _ _ _ _ h => h) h_213).mono (Im.minus_mono hle_278)).rd))
          refine Q_ret (vs := [.agg #[.int .i64 c.gain, .int .u8 c.info.seq, .int .u8 c.info.shape, .int .i64 c.info.max, .slice A_11 c.info.groups.length c_12, .slice A_21 c.sections.length c_22, .slice A_31 c.steps.length c_32, .slice A_198 c.tns.length c_199, .slice A_209 c.lines.length c_210]]) ⟨⟨_, rfl, .inr ⟨[.int .i64 c.gain, .int .u8 c.info.seq, .int .u8 c.info.shape, .int .i64 c.info.max, .slice A_11 c.info.groups.length c_12, .slice A_21 c.sections.length c_22, .slice A_31 c.steps.length c_32, .slice A_198 c.tns.length c_199, .slice A_209 c.lines.length c_210], rfl, ag37, sz37, ⟨Cell.blk 102 rfl rfl, Cell.blk 102 rfl rfl, Cell.blk 102 rfl rfl, Cell.blk 102 rfl rfl, Cell.blk 102 rfl rfl, Cell.blk 102 rfl rfl, Cell.blk 102 rfl rfl, Cell.blk 102 rfl rfl, Cell.blk 102 rfl rfl, trivial⟩, rfl⟩⟩, trivial⟩ (L' := []) [] trivial (by simp) (by decide) (⟨_, c, rfl, rfl, ?_, ⟨_, _, _, _, _, _, _, _, _, _, rfl, hc0, h_13, h_14, h_15, (h_16.mono (ImLe.trans Im.minus_le (ImLe.trans (ImLe.trans (ImLe.trans (ImLe.trans (ImLe.trans (ImLe.trans hle_27 hle_37) hle_219) hle_264) hle_269) hle_274) hle_278))), (hf_267.mono (ImLe.trans Im.minus_le (ImLe.trans (ImLe.trans hle_269 hle_274) hle_278))), (hf_272.mono (ImLe.trans Im.minus_le (ImLe.trans hle_274 hle_278))), (hf_276.mono hle_278), (hf_281.mono Im.minus_le)⟩, ?_⟩)
          · rfl
          · exact ⟨_, _, rfl, hf_281⟩
    · -- number 15
      refine AS_op rfl (op_pv (lt_of rfl) (pv_fieldAddr rfl fl_37_1) ⟨(fun h => by cases h), ?_⟩)
      refine A_one (i := 8) (by kernel_rfl) ?_
      refine AS_op rfl (op_call (fun _ h => by cases h; exact lt_of rfl) rfl rfl rfl en24 (f_twinsI _ _ _ c.steps (hc6.mono (ImLe.trans hle_8 hle_27)) z4 z5) [113] trivial (by simp) (by decide) ?_)
      rintro v_289 S_287 L_290 ⟨A_282, c_283, r_284, cells_285, rfl, rfl, rfl, h_286⟩ hle_288
      have hb_291 := h_286.bd
      refine ⟨rfl, ?_⟩
      refine ⟨fun _ => (held_le ⟨rfl, rfl, trivial⟩ (ImLe.trans (ImLe.trans hle_8 hle_27) hle_288) h0_3), ?_⟩
      refine A_one (i := 11) (by kernel_rfl) ?_
      refine AS_op rfl (op_call (fun _ h => by cases h; exact lt_of rfl) rfl rfl rfl en25 (f_twinsF _ _ _ c.tns (hc7.mono (ImLe.trans (ImLe.trans hle_8 hle_27) hle_288)) z6 z7) [114] trivial (by simp) (by decide) ?_)
      rintro v_300 S_298 L_301 ⟨A_292, c_293, r_294, cells_295, rfl, rfl, rfl, h_296, hf_297⟩ hle_299
      have hb_302 := h_296.bd
      refine ⟨rfl, ?_⟩
      refine ⟨fun _ => (held_le ⟨rfl, rfl, trivial⟩ (ImLe.trans (ImLe.trans (ImLe.trans hle_8 hle_27) hle_288) hle_299) h0_3), ?_⟩
      refine A_one (i := 14) (by kernel_rfl) ?_
      refine AS_op rfl (op_call (fun _ h => by cases h; exact lt_of rfl) rfl rfl rfl en26 (f_CloneI _ _ _ c.lines (hc8.mono (ImLe.trans (ImLe.trans (ImLe.trans hle_8 hle_27) hle_288) hle_299)) (by omega)) [115] trivial (by simp) (by decide) ?_)
      rintro v_310 S_308 L_311 ⟨A_303, c_304, r_305, cells_306, rfl, rfl, rfl, rfl, h_307⟩ hle_309
      have hb_312 := h_307.bd
      refine ⟨rfl, ?_⟩
      refine ⟨fun _ => (held_le ⟨rfl, rfl, trivial⟩ (ImLe.trans (ImLe.trans (ImLe.trans hle_8 hle_27) hle_288) hle_299) h0_3), ?_⟩
      refine A_one (i := 16) (by kernel_rfl) ?_
      refine AS_op rfl (op_store_any (vs := [.int .u8 c.info.seq, .int .u8 c.info.shape, .int .i64 c.info.max, .slice A_11 c.info.groups.length c_12]) (cs' := [.int .i64 c.gain, .int .u8 c.info.seq, .int .u8 c.info.shape, .int .i64 c.info.max, .slice A_11 c.info.groups.length c_12, .slice Ac5 c.sections.length cc5, .slice Ac6 c.steps.length cc6, .slice Ac7 c.tns.length cc7, .slice Ac8 c.lines.length cc8]) 101 rfl rfl rfl sz32 (by simp [Value.oneCell']) rfl (Nat.le_of_ble_eq_true rfl) rfl ?_)
      refine ⟨(fun h => by cases h), ?_⟩
      refine A_one (i := 17) (by kernel_rfl) ?_
      refine AS_op rfl (op_pv (lt_of rfl) (pv_fieldAddr rfl fl_37_2) ⟨(fun h => by cases h), ?_⟩)
      refine A_one (i := 18) (by kernel_rfl) ?_
      refine AS_op rfl (op_store_any (vs := [.slice A_21 c.sections.length c_22]) (cs' := [.int .i64 c.gain, .int .u8 c.info.seq, .int .u8 c.info.shape, .int .i64 c.info.max, .slice A_11 c.info.groups.length c_12, .slice A_21 c.sections.length c_22, .slice Ac6 c.steps.length cc6, .slice Ac7 c.tns.length cc7, .slice Ac8 c.lines.length cc8]) 101 rfl rfl rfl sz33 (by simp [Value.oneCell']) rfl (Nat.le_of_ble_eq_true rfl) rfl ?_)
      refine ⟨(fun h => by cases h), ?_⟩
      refine A_one (i := 19) (by kernel_rfl) ?_
      refine AS_op rfl (op_pv (lt_of rfl) (pv_fieldAddr rfl fl_37_3) ⟨(fun h => by cases h), ?_⟩)
      refine A_one (i := 20) (by kernel_rfl) ?_
      refine AS_op rfl (op_store_any (vs := [.slice A_282 c.steps.length c_283]) (cs' := [.int .i64 c.gain, .int .u8 c.info.seq, .int .u8 c.info.shape, .int .i64 c.info.max, .slice A_11 c.info.groups.length c_12, .slice A_21 c.sections.length c_22, .slice A_282 c.steps.length c_283, .slice Ac7 c.tns.length cc7, .slice Ac8 c.lines.length cc8]) 101 rfl rfl rfl sz34 (by simp [Value.oneCell']) rfl (Nat.le_of_ble_eq_true rfl) rfl ?_)
      refine ⟨(fun h => by cases h), ?_⟩
      refine A_one (i := 21) (by kernel_rfl) ?_
      refine AS_op rfl (op_pv (lt_of rfl) (pv_fieldAddr rfl fl_37_4) ⟨(fun h => by cases h), ?_⟩)
      refine A_one (i := 22) (by kernel_rfl) ?_
      refine AS_op rfl (op_store_any (vs := [.slice A_292 c.tns.length c_293]) (cs' := [.int .i64 c.gain, .int .u8 c.info.seq, .int .u8 c.info.shape, .int .i64 c.info.max, .slice A_11 c.info.groups.length c_12, .slice A_21 c.sections.length c_22, .slice A_282 c.steps.length c_283, .slice A_292 c.tns.length c_293, .slice Ac8 c.lines.length cc8]) 101 rfl rfl rfl sz35 (by simp [Value.oneCell']) rfl (Nat.le_of_ble_eq_true rfl) rfl ?_)
      refine ⟨(fun h => by cases h), ?_⟩
      refine A_one (i := 23) (by kernel_rfl) ?_
      refine AS_op rfl (op_pv (lt_of rfl) (pv_fieldAddr rfl fl_37_5) ⟨(fun h => by cases h), ?_⟩)
      refine A_one (i := 24) (by kernel_rfl) ?_
      refine AS_op rfl (op_store_any (vs := [.slice A_303 c.lines.length c_304]) (cs' := [.int .i64 c.gain, .int .u8 c.info.seq, .int .u8 c.info.shape, .int .i64 c.info.max, .slice A_11 c.info.groups.length c_12, .slice A_21 c.sections.length c_22, .slice A_282 c.steps.length c_283, .slice A_292 c.tns.length c_293, .slice A_303 c.lines.length c_304]) 101 rfl rfl rfl sz30 (by simp [Value.oneCell']) rfl (Nat.le_of_ble_eq_true rfl) rfl ?_)
      refine ⟨(fun h => by cases h), ?_⟩
      refine A_done (by kernel_rfl) ?_
      refine N_then ?_
      refine C_seq ?_
      refine C_seq ?_
      refine C_region rfl ?_
      refine T_pv rfl (pv_fieldAddr rfl fl_37_4) ?_
      refine T_pv rfl (pv_load rfl ag35 (Cell.blk 101 rfl rfl)) ?_
      refine T_pv rfl (pv_len rfl el35) ?_
      refine T_pv rfl (pv_move rfl) ?_
      refine T_nil ?_
      refine N_then ?_
      refine C_block ?_
      refine C_loop (fun (x : Int × Im) => (x.2, [(101, .blk g_1 [.int .i64 c.gain, .int .u8 c.info.seq, .int .u8 c.info.shape, .int .i64 c.info.max, .slice A_11 c.info.groups.length c_12, .slice A_21 c.sections.length c_22, .slice A_282 c.steps.length c_283, .slice A_292 c.tns.length c_293, .slice A_303 c.lines.length c_304] 37), (102, .blk g_2 [.int .i64 0, .int .u8 0, .int .u8 0, .int .i64 0, .slice none 0 0, .slice none 0 0, .slice none 0 0, .slice none 0 0, .slice none 0 0] 37), (103, .row (.slice A_21 c.sections.length c_22) 50 1 c.sections.length cells_24), (113, .row (.slice A_282 c.steps.length c_283) 30 1 c.steps.length cells_285), (114, .row (.slice A_292 c.tns.length c_293) 51 1 c.tns.length cells_295), (115, .row (.slice A_303 c.lines.length c_304) 3 1 c.lines.length cells_306)], [(0, .agg #[.int .i64 c.gain, .int .u8 c.info.seq, .int .u8 c.info.shape, .int .i64 c.info.max, .slice Ac4 c.info.groups.length cc4, .slice Ac5 c.sections.length cc5, .slice Ac6 c.steps.length cc6, .slice Ac7 c.tns.length cc7, .slice Ac8 c.lines.length cc8]), (1, .pointer (some ⟨g_1, 0, none⟩)), (2, .pointer (some ⟨g_2, 0, none⟩)), (6, .pointer (some ⟨g_1, 1, none⟩)), (7, .agg #[.int .u8 c.info.seq, .int .u8 c.info.shape, .int .i64 c.info.max, .slice Ac4 c.info.groups.length cc4]), (9, .pointer (some ⟨g_1, 5, none⟩)), (10, .slice Ac5 c.sections.length cc5), (12, .pointer (some ⟨g_1, 6, none⟩)), (13, .slice Ac6 c.steps.length cc6), (15, .pointer (some ⟨g_1, 7, none⟩)), (16, .slice Ac7 c.tns.length cc7), (18, .pointer (some ⟨g_1, 8, none⟩)), (19, .slice Ac8 c.lines.length cc8), (8, .agg #[.int .u8 c.info.seq, .int .u8 c.info.shape, .int .i64 c.info.max, .slice A_11 c.info.groups.length c_12]), (11, .slice A_21 c.sections.length c_22), (21, .pointer (some ⟨g_1, 1, none⟩)), (14, .slice A_282 c.steps.length c_283), (17, .slice A_292 c.tns.length c_293), (20, .slice A_303 c.lines.length c_304), (22, .pointer (some ⟨g_1, 5, none⟩)), (23, .pointer (some ⟨g_1, 6, none⟩)), (24, .pointer (some ⟨g_1, 7, none⟩)), (25, .pointer (some ⟨g_1, 8, none⟩)), (26, .pointer (some ⟨g_1, 7, none⟩)), (27, .slice A_292 c.tns.length c_293), (28, .int .i64 (c.tns.length : Int)), (29, .int .i64 x.1)])) (fun (x : Int × Im) => ImLe S_287 x.2 ∧ 0 ≤ x.1 ∧ x.1 ≤ c.tns.length ∧ RowOk (kSl kGFilter) x.2 A_292 c_293 cells_295 c.tns ∧ RdL (kSl (kAnyN 5)) (x.2.minus S_287) cells_295 (c.tns.map shp)) (fun (x : Int × Im) => (c.tns.length - x.1).toNat) ((0, S_298)) ⟨hle_299, ⟨by omega, by omega, h_296, hf_297⟩⟩ rfl ⟨rfl, rfl, rfl, rfl, rfl, rfl, trivial⟩ ⟨rfl, rfl, rfl, rfl, rfl, rfl, rfl, rfl, rfl, rfl, rfl, rfl, rfl, rfl, rfl, rfl, rfl, rfl, rfl, rfl, rfl, rfl, rfl, rfl, rfl, rfl, rfl, trivial⟩ ?_
      rintro ⟨j, T1⟩ ⟨hle_313, ⟨q0, q1, q2, q3⟩⟩
      dsimp only at *
      refine C_seq ?_
      refine C_region rfl ?_
      refine T_pv rfl (pv_lss rfl rfl) ?_
      refine T_nil ?_
      refine N_then ?_
      refine C_seq ?_
      refine C_cond rfl (fun hb_314 => ?_) (fun hb_314 => ?_)
      · -- decide (j < (c.tns.length : Int)) = true
        have hx_315 := of_decide_eq_true hb_314
        refine C_skip ?_
        refine N_then ?_
        refine C_seq ?_
        refine C_block ?_
        refine C_seq ?_
        refine C_region rfl ?_
        obtain ⟨us_316, hk_317, hcut_319, he_318⟩ := RowOk.elt q2 (i := j) (by omega) (by omega)
        obtain ⟨A_320, c_321, rfl, h_322⟩ := hk_317
        have hb_323 := h_322.bd
        refine T_pv rfl (pv_idxrow q2 rfl rfl el35 sz51 (by omega) (by omega)) ?_
        refine T_pv rfl (pv_load rfl ag51 ((he_318 _ _ 114 _ _ rfl).zero rfl)) ?_
        refine T_pv rfl (pv_assign rfl) ?_
        refine T_nil ?_
        refine N_then ?_
        refine C_seq ?_
        refine C_region rfl ?_
        refine T_pv rfl (pv_move rfl) ?_
        refine T_pv rfl (pv_len rfl el51) ?_
        refine T_pv rfl (pv_move rfl) ?_
        refine T_nil ?_
        refine N_then ?_
        refine C_block ?_
        have hsj := shape_at q3 hcut_319 (by omega) (by omega)
        have zz := z7.at_ (i := j) (by omega) (by omega)
        refine C_loop (fun (x : Int × Im) => (x.2, [(101, .blk g_1 [.int .i64 c.gain, .int .u8 c.info.seq, .int .u8 c.info.shape, .int .i64 c.info.max, .slice A_11 c.info.groups.length c_12, .slice A_21 c.sections.length c_22, .slice A_282 c.steps.length c_283, .slice A_292 c.tns.length c_293, .slice A_303 c.lines.length c_304] 37), (102, .blk g_2 [.int .i64 0, .int .u8 0, .int .u8 0, .int .i64 0, .slice none 0 0, .slice none 0 0, .slice none 0 0, .slice none 0 0, .slice none 0 0] 37), (103, .row (.slice A_21 c.sections.length c_22) 50 1 c.sections.length cells_24), (113, .row (.slice A_282 c.steps.length c_283) 30 1 c.steps.length cells_285), (114, .row (.slice A_292 c.tns.length c_293) 51 1 c.tns.length cells_295), (115, .row (.slice A_303 c.lines.length c_304) 3 1 c.lines.length cells_306)], [(0, .agg #[.int .i64 c.gain, .int .u8 c.info.seq, .int .u8 c.info.shape, .int .i64 c.info.max, .slice Ac4 c.info.groups.length cc4, .slice Ac5 c.sections.length cc5, .slice Ac6 c.steps.length cc6, .slice Ac7 c.tns.length cc7, .slice Ac8 c.lines.length cc8]), (1, .pointer (some ⟨g_1, 0, none⟩)), (2, .pointer (some ⟨g_2, 0, none⟩)), (6, .pointer (some ⟨g_1, 1, none⟩)), (7, .agg #[.int .u8 c.info.seq, .int .u8 c.info.shape, .int .i64 c.info.max, .slice Ac4 c.info.groups.length cc4]), (9, .pointer (some ⟨g_1, 5, none⟩)), (10, .slice Ac5 c.sections.length cc5), (12, .pointer (some ⟨g_1, 6, none⟩)), (13, .slice Ac6 c.steps.length cc6), (15, .pointer (some ⟨g_1, 7, none⟩)), (16, .slice Ac7 c.tns.length cc7), (18, .pointer (some ⟨g_1, 8, none⟩)), (19, .slice Ac8 c.lines.length cc8), (8, .agg #[.int .u8 c.info.seq, .int .u8 c.info.shape, .int .i64 c.info.max, .slice A_11 c.info.groups.length c_12]), (11, .slice A_21 c.sections.length c_22), (21, .pointer (some ⟨g_1, 1, none⟩)), (14, .slice A_282 c.steps.length c_283), (17, .slice A_292 c.tns.length c_293), (20, .slice A_303 c.lines.length c_304), (22, .pointer (some ⟨g_1, 5, none⟩)), (23, .pointer (some ⟨g_1, 6, none⟩)), (24, .pointer (some ⟨g_1, 7, none⟩)), (25, .pointer (some ⟨g_1, 8, none⟩)), (26, .pointer (some ⟨g_1, 7, none⟩)), (27, .slice A_292 c.tns.length c_293), (28, .int .i64 (c.tns.length : Int)), (29, .int .i64 j), (30, .bool (decide (j < (c.tns.length : Int)))), (4, .slice A_320 ((c.tns.getD (j).toNat default).length) c_321), (34, .int .i64 ((c.tns.getD (j).toNat default).length : Int)), (35, .int .i64 x.1)])) (fun (x : Int × Im) => ImLe S_287 x.2 ∧ 0 ≤ x.1 ∧ x.1 ≤ (c.tns.getD (j).toNat default).length ∧ RowOk (kSl kGFilter) x.2 A_292 c_293 cells_295 c.tns ∧ RdL (kSl (kAnyN 5)) (x.2.minus S_287) cells_295 (c.tns.map shp) ∧ RdA kGFilter x.2 A_320 c_321 (c.tns.getD (j).toNat default) ∧ RdA (kAnyN 5) (x.2.minus S_287) A_320 c_321 (shp (c.tns.getD (j).toNat default))) (fun (x : Int × Im) => ((c.tns.getD (j).toNat default).length - x.1).toNat) ((0, T1)) ⟨hle_313, ⟨by omega, by omega, q2, q3, h_322, hsj⟩⟩ rfl ⟨rfl, rfl, rfl, rfl, rfl, rfl, trivial⟩ ⟨rfl, rfl, rfl, rfl, rfl, rfl, rfl, rfl, rfl, rfl, rfl, rfl, rfl, rfl, rfl, rfl, rfl, rfl, rfl, rfl, rfl, rfl, rfl, rfl, rfl, rfl, rfl, rfl, rfl, rfl, rfl, trivial⟩ ?_
        rintro ⟨k, T2⟩ ⟨hle_324, ⟨s0, s1, s2, s3, s4, s5⟩⟩
        dsimp only at *
        refine C_seq ?_
        refine C_region rfl ?_
        refine T_pv rfl (pv_lss rfl rfl) ?_
        refine T_nil ?_
        refine N_then ?_
        refine C_seq ?_
        refine C_cond rfl (fun hb_325 => ?_) (fun hb_325 => ?_)
        · -- decide (k < ((c.tns.getD (j).toNat default).length : Int)) = true
          have hx_326 := of_decide_eq_true hb_325
          refine C_skip ?_
          refine N_then ?_
          refine C_seq ?_
          refine C_block ?_
          refine C_seq ?_
          refine C_region rfl ?_
          refine T_pv rfl (pv_move rfl) ?_
          refine T_pv rfl (pv_assign rfl) ?_
          refine T_nil ?_
          refine N_then ?_
          refine C_region rfl ?_
          refine T_pv rfl (pv_move rfl) ?_
          refine T_pv rfl (pv_move rfl) ?_
          refine T_pv rfl (pv_move rfl) ?_
          refine T_pv rfl (pv_move rfl) ?_
          obtain ⟨us_327, hk_328, he_329⟩ := RdA.elt s4 (i := k) (by omega) (by omega)
          obtain ⟨A_330, c_331, rfl, h_332, h_333, h_334⟩ := hk_328
          have hq_335 := InR.i64 h_332
          have hq_336 := InR.i64 h_333
          have hb_337 := h_334.bd
          refine T_pv rfl (pv_idx s4 rfl rfl el51 sz53 (by omega) (by omega)) ?_
          refine T_pv rfl (pv_fieldAddr rfl fl_53_4) ?_
          refine T_pv rfl (pv_load rfl ag30 ((he_329 _ _ (ImLe.refl _)).at_ 4 rfl)) ?_
          have zf : _ ≤ 2000 := zz.2.at_ (i := k) (by omega) (by omega)
          refine T_cons (op_call (fun _ h => by cases h; exact lt_of rfl) rfl rfl rfl en26 (f_CloneI _ _ _ (((c.tns.getD (j).toNat default).getD (k).toNat default).coefs) h_334 (by omega)) [116] trivial (by simp) (by decide) ?_)
          rintro v_345 S_343 L_346 ⟨A_338, c_339, r_340, cells_341, rfl, rfl, rfl, rfl, h_342⟩ hle_344
          have hb_347 := h_342.bd
          refine ⟨rfl, ?_⟩
          refine T_pv rfl (pv_idx s4 rfl rfl el51 sz53 (by omega) (by omega)) ?_
          refine T_pv rfl (pv_fieldAddr rfl fl_53_4) ?_
          refine T_freezeRow 116 rfl (fun S_348 hle_349 hz_350 => ?_)
          have hf_352 : RdA (kInt .i64) (S_348.minus T2) A_338 c_339 (((c.tns.getD (j).toNat default).getD (k).toNat default).coefs) := (hz_350 _ (ImLe.refl _) (kInt .i64) _ rfl (RowOk.any (S' := (T2.minus T2)) (fun _ _ _ _ h => h) h_342).len (((RowOk.any (S' := (T2.minus T2)) (fun _ _ _ _ h => h) h_342).mono (Im.minus_mono hle_349)).rd))
          obtain ⟨g, cs, T, fr, had, hg, hg0, hlt, hput⟩ := coef_put s4 s5 hle_349 hle_324 (k := k) (by omega) (by omega) hf_352
          refine T_cons (op_storeIm (ad := (adr A_320 ((k).toNat * 5)).add 4) rfl (by rw [had]) rfl rfl sz30 rfl (by rw [had]; exact hg) (by rw [had]; exact le_none (ImLe.trans (ImLe.trans hle_8 hle_27) hle_288) hg0) hlt ?_)
          rw [show ((adr A_320 ((k).toNat * 5)).add 4).block = g from by rw [had]]
          generalize hT3 : Im.put S_348 g (.cells (cs.setIfInBounds ((adr A_320 ((k).toNat * 5)).add 4).off (.slice A_338 (((c.tns.getD (j).toNat default).getD (k).toNat default).coefs).length c_339)) T fr) = T3
          obtain ⟨hle3, hch3, hrd3, hsh3⟩ := hput T3 hT3.symm
          have f_ok := RowOk.imp (s2.mono hle_349) (S' := T3) (fun cs x ⟨A, c, e, h⟩ => ⟨A, c, e, hrd3 _ _ _ h⟩)
          have f_sh : RdL (kSl (kAnyN 5)) (T3.minus S_287) cells_295 (c.tns.map shp) := RdL.imp (d := kSl (kAnyN 5)) (fun cs x h => by obtain ⟨A, c, e, h⟩ := h; exact ⟨A, c, e, hsh3 _ _ _ h⟩) (RdL.mono (Im.minus_mono hle_349) s3)
          have f_rd := hrd3 _ _ _ (s4.mono hle_349)
          have f_rs := hsh3 _ _ _ (s5.mono (Im.minus_mono hle_349))
          refine T_nil ?_
          refine N_block ?_
          refine N_then ?_
          refine C_region rfl ?_
          have hr_353 : InR .i64 (k + 1) := inR_i64 (by omega) (by omega)
          refine T_pv rfl (pv_add rfl rfl hr_353) ?_
          refine T_pv rfl (pv_move rfl) ?_
          refine T_nil ?_
          refine N_next ((k + 1, T3)) ⟨hle3, ⟨by omega, by omega, f_ok, f_sh, f_rd, f_rs⟩⟩ (by first | omega | (dsimp only; omega)) rfl ⟨rfl, rfl, rfl, rfl, rfl, rfl, trivial⟩ ⟨rfl, rfl, rfl, rfl, rfl, rfl, rfl, rfl, rfl, rfl, rfl, rfl, rfl, rfl, rfl, rfl, rfl, rfl, rfl, rfl, rfl, rfl, rfl, rfl, rfl, rfl, rfl, rfl, rfl, rfl, rfl, trivial⟩
        · -- decide (k < ((c.tns.getD (j).toNat default).length : Int)) = false
          have hx_354 := of_decide_eq_false hb_325
          refine C_exit ?_
          refine X_then ?_
          refine X_loop ?_
          refine X_block ?_
          refine N_block ?_
          refine N_then ?_
          refine C_region rfl ?_
          have hr_355 : InR .i64 (j + 1) := inR_i64 (by omega) (by omega)
          refine T_pv rfl (pv_add rfl rfl hr_355) ?_
          refine T_pv rfl (pv_move rfl) ?_
          refine T_nil ?_
          refine N_next ((j + 1, T2)) ⟨hle_324, ⟨by omega, by omega, s2, s3⟩⟩ (by first | omega | (dsimp only; omega)) rfl ⟨rfl, rfl, rfl, rfl, rfl, rfl, trivial⟩ ⟨rfl, rfl, rfl, rfl, rfl, rfl, rfl, rfl, rfl, rfl, rfl, rfl, rfl, rfl, rfl, rfl, rfl, rfl, rfl, rfl, rfl, rfl, rfl, rfl, rfl, rfl, rfl, trivial⟩
      · -- decide (j < (c.tns.length : Int)) = false
        have hx_356 := of_decide_eq_false hb_314
        refine C_exit ?_
        refine X_then ?_
        refine X_loop ?_
        refine X_block ?_
        refine N_then ?_
        refine C_seq ?_
        refine C_region rfl ?_
        refine T_pv rfl (pv_load_agg (cs := [.int .i64 c.gain, .int .u8 c.info.seq, .int .u8 c.info.shape, .int .i64 c.info.max, .slice A_11 c.info.groups.length c_12, .slice A_21 c.sections.length c_22, .slice A_282 c.steps.length c_283, .slice A_292 c.tns.length c_293, .slice A_303 c.lines.length c_304]) rfl ag37 sz37 rfl ⟨Cell.blk 101 rfl rfl, Cell.blk 101 rfl rfl, Cell.blk 101 rfl rfl, Cell.blk 101 rfl rfl, Cell.blk 101 rfl rfl, Cell.blk 101 rfl rfl, Cell.blk 101 rfl rfl, Cell.blk 101 rfl rfl, Cell.blk 101 rfl rfl, trivial⟩) ?_
        refine T_cons (op_store_any (vs := [.int .i64 c.gain, .int .u8 c.info.seq, .int .u8 c.info.shape, .int .i64 c.info.max, .slice A_11 c.info.groups.length c_12, .slice A_21 c.sections.length c_22, .slice A_282 c.steps.length c_283, .slice A_292 c.tns.length c_293, .slice A_303 c.lines.length c_304]) (cs' := [.int .i64 c.gain, .int .u8 c.info.seq, .int .u8 c.info.shape, .int .i64 c.info.max, .slice A_11 c.info.groups.length c_12, .slice A_21 c.sections.length c_22, .slice A_282 c.steps.length c_283, .slice A_292 c.tns.length c_293, .slice A_303 c.lines.length c_304]) 102 rfl rfl rfl sz37 (by simp [Value.oneCell']) rfl (Nat.le_of_ble_eq_true rfl) rfl ?_)
        refine T_nil ?_
        refine N_then ?_
        refine C_ret0 ?_
        -- ret 3: .agg #[.int .i64 c.gain, .int .u8 c.info.seq, .int .u8 c.info.shape, .int .i64 c.info.max, .slice A_11 c.info.groups.length c_12, .slice A_21 c.sections.length c_22, .slice A_282 c.steps.length c_283, .slice A_292 c.tns.length c_293, .slice A_303 c.lines.length c_304]
        refine G_freeze 103 rfl (fun S_357 hle_358 hz_359 => ?_)
        have hf_361 : RdA (kSl kGSection) (S_357.minus S_7) A_21 c_22 c.sections := (hz_359 _ (ImLe.trans (ImLe.trans hle_27 hle_288) hle_313) (kSl kGSection) _ rfl h_25.len (((h_25.mono (Im.minus_mono (ImLe.trans hle_288 hle_313))).mono (Im.minus_mono hle_358)).rd))
        refine G_freeze 113 rfl (fun S_362 hle_363 hz_364 => ?_)
        have hf_366 : RdA (kSl (kInt .i64)) (S_362.minus S_26) A_282 c_283 c.steps := (hz_364 _ (ImLe.trans (ImLe.trans hle_288 hle_313) hle_358) (kSl (kInt .i64)) _ rfl h_286.len (((h_286.mono (Im.minus_mono (ImLe.trans hle_313 hle_358))).mono (Im.minus_mono hle_363)).rd))
        refine G_freeze 114 rfl (fun S_367 hle_368 hz_369 => ?_)
        have hf_370 : RdA (kSl kGFilter) S_367 A_292 c_293 c.tns := (RowOk.frozen0 (q2.mono (ImLe.trans hle_358 hle_363)) hle_368 hz_369)
        refine G_freeze 115 rfl (fun S_371 hle_372 hz_373 => ?_)
        have hf_375 : RdA (kInt .i64) (S_371.minus S) A_303 c_304 c.lines := (hz_373 _ (ImLe.trans (ImLe.trans (ImLe.trans (ImLe.trans (ImLe.trans (ImLe.trans hle_8 hle_27) hle_288) hle_313) hle_358) hle_363) hle_368) (kInt .i64) _ rfl (RowOk.any (S' := (S_367.minus S)) (fun _ _ _ _ h => h) h_307).len (((RowOk.any (S' := (S_367.minus S)) (fun _ _ _ _ h => h) h_307).mono (Im.minus_mono hle_372)).rd))
        refine Q_ret (vs := [.agg #[.int .i64 c.gain, .int .u8 c.info.seq, .int .u8 c.info.shape, .int .i64 c.info.max, .slice A_11 c.info.groups.length c_12, .slice A_21 c.sections.length c_22, .slice A_282 c.steps.length c_283, .slice A_292 c.tns.length c_293, .slice A_303 c.lines.length c_304]]) ⟨⟨_, rfl, .inr ⟨[.int .i64 c.gain, .int .u8 c.info.seq, .int .u8 c.info.shape, .int .i64 c.info.max, .slice A_11 c.info.groups.length c_12, .slice A_21 c.sections.length c_22, .slice A_282 c.steps.length c_283, .slice A_292 c.tns.length c_293, .slice A_303 c.lines.length c_304], rfl, ag37, sz37, ⟨Cell.blk 102 rfl rfl, Cell.blk 102 rfl rfl, Cell.blk 102 rfl rfl, Cell.blk 102 rfl rfl, Cell.blk 102 rfl rfl, Cell.blk 102 rfl rfl, Cell.blk 102 rfl rfl, Cell.blk 102 rfl rfl, Cell.blk 102 rfl rfl, trivial⟩, rfl⟩⟩, trivial⟩ (L' := []) [] trivial (by simp) (by decide) (⟨_, c, rfl, rfl, ?_, ⟨_, _, _, _, _, _, _, _, _, _, rfl, hc0, h_13, h_14, h_15, (h_16.mono (ImLe.trans Im.minus_le (ImLe.trans (ImLe.trans (ImLe.trans (ImLe.trans (ImLe.trans (ImLe.trans hle_27 hle_288) hle_313) hle_358) hle_363) hle_368) hle_372))), (hf_361.mono (ImLe.trans Im.minus_le (ImLe.trans (ImLe.trans hle_363 hle_368) hle_372))), (hf_366.mono (ImLe.trans Im.minus_le (ImLe.trans hle_368 hle_372))), (hf_370.mono hle_372), (hf_375.mono Im.minus_le)⟩, ?_⟩)
        · rfl
        · exact ⟨_, _, rfl, hf_375⟩
  · -- number 15
    refine AS_op rfl (op_pv (lt_of rfl) (pv_fieldAddr rfl fl_37_1) ⟨(fun h => by cases h), ?_⟩)
    refine A_one (i := 5) (by kernel_rfl) ?_
    refine AS_op rfl (op_call (fun _ h => by cases h; exact lt_of rfl) rfl rfl rfl en23 (f_twinsS _ _ _ c.sections (hc5.mono hle_8) z2 z3) [117] trivial (by simp) (by decide) ?_)
    rintro v_383 S_381 L_384 ⟨A_376, c_377, r_378, cells_379, rfl, rfl, rfl, h_380⟩ hle_382
    have hb_385 := h_380.bd
    refine ⟨rfl, ?_⟩
    refine ⟨fun _ => (held_le ⟨rfl, rfl, trivial⟩ (ImLe.trans hle_8 hle_382) h0_3), ?_⟩
    refine A_one (i := 8) (by kernel_rfl) ?_
    refine AS_op rfl (op_call (fun _ h => by cases h; exact lt_of rfl) rfl rfl rfl en24 (f_twinsI _ _ _ c.steps (hc6.mono (ImLe.trans hle_8 hle_382)) z4 z5) [118] trivial (by simp) (by decide) ?_)
    rintro v_393 S_391 L_394 ⟨A_386, c_387, r_388, cells_389, rfl, rfl, rfl, h_390⟩ hle_392
    have hb_395 := h_390.bd
    refine ⟨rfl, ?_⟩
    refine ⟨fun _ => (held_le ⟨rfl, rfl, trivial⟩ (ImLe.trans (ImLe.trans hle_8 hle_382) hle_392) h0_3), ?_⟩
    refine A_one (i := 11) (by kernel_rfl) ?_
    refine AS_op rfl (op_call (fun _ h => by cases h; exact lt_of rfl) rfl rfl rfl en25 (f_twinsF _ _ _ c.tns (hc7.mono (ImLe.trans (ImLe.trans hle_8 hle_382) hle_392)) z6 z7) [119] trivial (by simp) (by decide) ?_)
    rintro v_404 S_402 L_405 ⟨A_396, c_397, r_398, cells_399, rfl, rfl, rfl, h_400, hf_401⟩ hle_403
    have hb_406 := h_400.bd
    refine ⟨rfl, ?_⟩
    refine ⟨fun _ => (held_le ⟨rfl, rfl, trivial⟩ (ImLe.trans (ImLe.trans (ImLe.trans hle_8 hle_382) hle_392) hle_403) h0_3), ?_⟩
    refine A_one (i := 14) (by kernel_rfl) ?_
    refine AS_op rfl (op_call (fun _ h => by cases h; exact lt_of rfl) rfl rfl rfl en26 (f_CloneI _ _ _ c.lines (hc8.mono (ImLe.trans (ImLe.trans (ImLe.trans hle_8 hle_382) hle_392) hle_403)) (by omega)) [120] trivial (by simp) (by decide) ?_)
    rintro v_414 S_412 L_415 ⟨A_407, c_408, r_409, cells_410, rfl, rfl, rfl, rfl, h_411⟩ hle_413
    have hb_416 := h_411.bd
    refine ⟨rfl, ?_⟩
    refine ⟨fun _ => (held_le ⟨rfl, rfl, trivial⟩ (ImLe.trans (ImLe.trans (ImLe.trans hle_8 hle_382) hle_392) hle_403) h0_3), ?_⟩
    refine A_one (i := 16) (by kernel_rfl) ?_
    refine AS_op rfl (op_store_any (vs := [.int .u8 c.info.seq, .int .u8 c.info.shape, .int .i64 c.info.max, .slice A_11 c.info.groups.length c_12]) (cs' := [.int .i64 c.gain, .int .u8 c.info.seq, .int .u8 c.info.shape, .int .i64 c.info.max, .slice A_11 c.info.groups.length c_12, .slice Ac5 c.sections.length cc5, .slice Ac6 c.steps.length cc6, .slice Ac7 c.tns.length cc7, .slice Ac8 c.lines.length cc8]) 101 rfl rfl rfl sz32 (by simp [Value.oneCell']) rfl (Nat.le_of_ble_eq_true rfl) rfl ?_)
    refine ⟨(fun h => by cases h), ?_⟩
    refine A_one (i := 17) (by kernel_rfl) ?_
    refine AS_op rfl (op_pv (lt_of rfl) (pv_fieldAddr rfl fl_37_2) ⟨(fun h => by cases h), ?_⟩)
    refine A_one (i := 18) (by kernel_rfl) ?_
    refine AS_op rfl (op_store_any (vs := [.slice A_376 c.sections.length c_377]) (cs' := [.int .i64 c.gain, .int .u8 c.info.seq, .int .u8 c.info.shape, .int .i64 c.info.max, .slice A_11 c.info.groups.length c_12, .slice A_376 c.sections.length c_377, .slice Ac6 c.steps.length cc6, .slice Ac7 c.tns.length cc7, .slice Ac8 c.lines.length cc8]) 101 rfl rfl rfl sz33 (by simp [Value.oneCell']) rfl (Nat.le_of_ble_eq_true rfl) rfl ?_)
    refine ⟨(fun h => by cases h), ?_⟩
    refine A_one (i := 19) (by kernel_rfl) ?_
    refine AS_op rfl (op_pv (lt_of rfl) (pv_fieldAddr rfl fl_37_3) ⟨(fun h => by cases h), ?_⟩)
    refine A_one (i := 20) (by kernel_rfl) ?_
    refine AS_op rfl (op_store_any (vs := [.slice A_386 c.steps.length c_387]) (cs' := [.int .i64 c.gain, .int .u8 c.info.seq, .int .u8 c.info.shape, .int .i64 c.info.max, .slice A_11 c.info.groups.length c_12, .slice A_376 c.sections.length c_377, .slice A_386 c.steps.length c_387, .slice Ac7 c.tns.length cc7, .slice Ac8 c.lines.length cc8]) 101 rfl rfl rfl sz34 (by simp [Value.oneCell']) rfl (Nat.le_of_ble_eq_true rfl) rfl ?_)
    refine ⟨(fun h => by cases h), ?_⟩
    refine A_one (i := 21) (by kernel_rfl) ?_
    refine AS_op rfl (op_pv (lt_of rfl) (pv_fieldAddr rfl fl_37_4) ⟨(fun h => by cases h), ?_⟩)
    refine A_one (i := 22) (by kernel_rfl) ?_
    refine AS_op rfl (op_store_any (vs := [.slice A_396 c.tns.length c_397]) (cs' := [.int .i64 c.gain, .int .u8 c.info.seq, .int .u8 c.info.shape, .int .i64 c.info.max, .slice A_11 c.info.groups.length c_12, .slice A_376 c.sections.length c_377, .slice A_386 c.steps.length c_387, .slice A_396 c.tns.length c_397, .slice Ac8 c.lines.length cc8]) 101 rfl rfl rfl sz35 (by simp [Value.oneCell']) rfl (Nat.le_of_ble_eq_true rfl) rfl ?_)
    refine ⟨(fun h => by cases h), ?_⟩
    refine A_one (i := 23) (by kernel_rfl) ?_
    refine AS_op rfl (op_pv (lt_of rfl) (pv_fieldAddr rfl fl_37_5) ⟨(fun h => by cases h), ?_⟩)
    refine A_one (i := 24) (by kernel_rfl) ?_
    refine AS_op rfl (op_store_any (vs := [.slice A_407 c.lines.length c_408]) (cs' := [.int .i64 c.gain, .int .u8 c.info.seq, .int .u8 c.info.shape, .int .i64 c.info.max, .slice A_11 c.info.groups.length c_12, .slice A_376 c.sections.length c_377, .slice A_386 c.steps.length c_387, .slice A_396 c.tns.length c_397, .slice A_407 c.lines.length c_408]) 101 rfl rfl rfl sz30 (by simp [Value.oneCell']) rfl (Nat.le_of_ble_eq_true rfl) rfl ?_)
    refine ⟨(fun h => by cases h), ?_⟩
    refine A_done (by kernel_rfl) ?_
    refine N_then ?_
    refine C_seq ?_
    refine C_seq ?_
    refine C_region rfl ?_
    refine T_pv rfl (pv_fieldAddr rfl fl_37_4) ?_
    refine T_pv rfl (pv_load rfl ag35 (Cell.blk 101 rfl rfl)) ?_
    refine T_pv rfl (pv_len rfl el35) ?_
    refine T_pv rfl (pv_move rfl) ?_
    refine T_nil ?_
    refine N_then ?_
    refine C_block ?_
    refine C_loop (fun (x : Int × Im) => (x.2, [(101, .blk g_1 [.int .i64 c.gain, .int .u8 c.info.seq, .int .u8 c.info.shape, .int .i64 c.info.max, .slice A_11 c.info.groups.length c_12, .slice A_376 c.sections.length c_377, .slice A_386 c.steps.length c_387, .slice A_396 c.tns.length c_397, .slice A_407 c.lines.length c_408] 37), (102, .blk g_2 [.int .i64 0, .int .u8 0, .int .u8 0, .int .i64 0, .slice none 0 0, .slice none 0 0, .slice none 0 0, .slice none 0 0, .slice none 0 0] 37), (117, .row (.slice A_376 c.sections.length c_377) 50 1 c.sections.length cells_379), (118, .row (.slice A_386 c.steps.length c_387) 30 1 c.steps.length cells_389), (119, .row (.slice A_396 c.tns.length c_397) 51 1 c.tns.length cells_399), (120, .row (.slice A_407 c.lines.length c_408) 3 1 c.lines.length cells_410)], [(0, .agg #[.int .i64 c.gain, .int .u8 c.info.seq, .int .u8 c.info.shape, .int .i64 c.info.max, .slice Ac4 c.info.groups.length cc4, .slice Ac5 c.sections.length cc5, .slice Ac6 c.steps.length cc6, .slice Ac7 c.tns.length cc7, .slice Ac8 c.lines.length cc8]), (1, .pointer (some ⟨g_1, 0, none⟩)), (2, .pointer (some ⟨g_2, 0, none⟩)), (6, .pointer (some ⟨g_1, 1, none⟩)), (7, .agg #[.int .u8 c.info.seq, .int .u8 c.info.shape, .int .i64 c.info.max, .slice Ac4 c.info.groups.length cc4]), (9, .pointer (some ⟨g_1, 5, none⟩)), (10, .slice Ac5 c.sections.length cc5), (12, .pointer (some ⟨g_1, 6, none⟩)), (13, .slice Ac6 c.steps.length cc6), (15, .pointer (some ⟨g_1, 7, none⟩)), (16, .slice Ac7 c.tns.length cc7), (18, .pointer (some ⟨g_1, 8, none⟩)), (19, .slice Ac8 c.lines.length cc8), (8, .agg #[.int .u8 c.info.seq, .int .u8 c.info.shape, .int .i64 c.info.max, .slice A_11 c.info.groups.length c_12]), (21, .pointer (some ⟨g_1, 1, none⟩)), (11, .slice A_376 c.sections.length c_377), (14, .slice A_386 c.steps.length c_387), (17, .slice A_396 c.tns.length c_397), (20, .slice A_407 c.lines.length c_408), (22, .pointer (some ⟨g_1, 5, none⟩)), (23, .pointer (some ⟨g_1, 6, none⟩)), (24, .pointer (some ⟨g_1, 7, none⟩)), (25, .pointer (some ⟨g_1, 8, none⟩)), (26, .pointer (some ⟨g_1, 7, none⟩)), (27, .slice A_396 c.tns.length c_397), (28, .int .i64 (c.tns.length : Int)), (29, .int .i64 x.1)])) (fun (x : Int × Im) => ImLe S_391 x.2 ∧ 0 ≤ x.1 ∧ x.1 ≤ c.tns.length ∧ RowOk (kSl kGFilter) x.2 A_396 c_397 cells_399 c.tns ∧ RdL (kSl (kAnyN 5)) (x.2.minus S_391) cells_399 (c.tns.map shp)) (fun (x : Int × Im) => (c.tns.length - x.1).toNat) ((0, S_402)) ⟨hle_403, ⟨by omega, by omega, h_400, hf_401⟩⟩ rfl ⟨rfl, rfl, rfl, rfl, rfl, rfl, trivial⟩ ⟨rfl, rfl, rfl, rfl, rfl, rfl, rfl, rfl, rfl, rfl, rfl, rfl, rfl, rfl, rfl, rfl, rfl, rfl, rfl, rfl, rfl, rfl, rfl, rfl, rfl, rfl, rfl, trivial⟩ ?_
    rintro ⟨j, T1⟩ ⟨hle_417, ⟨q0, q1, q2, q3⟩⟩
    dsimp only at *
    refine C_seq ?_
    refine C_region rfl ?_
    refine T_pv rfl (pv_lss rfl rfl) ?_
    refine T_nil ?_
    refine N_then ?_
    refine C_seq ?_
    refine C_cond rfl (fun hb_418 => ?_) (fun hb_418 => ?_)
    · -- decide (j < (c.tns.length : Int)) = true
      have hx_419 := of_decide_eq_true hb_418
      refine C_skip ?_
      refine N_then ?_
      refine C_seq ?_
      refine C_block ?_
      refine C_seq ?_
      refine C_region rfl ?_
      obtain ⟨us_420, hk_421, hcut_423, he_422⟩ := RowOk.elt q2 (i := j) (by omega) (by omega)
      obtain ⟨A_424, c_425, rfl, h_426⟩ := hk_421
      have hb_427 := h_426.bd
      refine T_pv rfl (pv_idxrow q2 rfl rfl el35 sz51 (by omega) (by omega)) ?_
      refine T_pv rfl (pv_load rfl ag51 ((he_422 _ _ 119 _ _ rfl).zero rfl)) ?_
      refine T_pv rfl (pv_assign rfl) ?_
      refine T_nil ?_
      refine N_then ?_
      refine C_seq ?_
      refine C_region rfl ?_
      refine T_pv rfl (pv_move rfl) ?_
      refine T_pv rfl (pv_len rfl el51) ?_
      refine T_pv rfl (pv_move rfl) ?_
      refine T_nil ?_
      refine N_then ?_
      refine C_block ?_
      have hsj := shape_at q3 hcut_423 (by omega) (by omega)
      have zz := z7.at_ (i := j) (by omega) (by omega)
      refine C_loop (fun (x : Int × Im) => (x.2, [(101, .blk g_1 [.int .i64 c.gain, .int .u8 c.info.seq, .int .u8 c.info.shape, .int .i64 c.info.max, .slice A_11 c.info.groups.length c_12, .slice A_376 c.sections.length c_377, .slice A_386 c.steps.length c_387, .slice A_396 c.tns.length c_397, .slice A_407 c.lines.length c_408] 37), (102, .blk g_2 [.int .i64 0, .int .u8 0, .int .u8 0, .int .i64 0, .slice none 0 0, .slice none 0 0, .slice none 0 0, .slice none 0 0, .slice none 0 0] 37), (117, .row (.slice A_376 c.sections.length c_377) 50 1 c.sections.length cells_379), (118, .row (.slice A_386 c.steps.length c_387) 30 1 c.steps.length cells_389), (119, .row (.slice A_396 c.tns.length c_397) 51 1 c.tns.length cells_399), (120, .row (.slice A_407 c.lines.length c_408) 3 1 c.lines.length cells_410)], [(0, .agg #[.int .i64 c.gain, .int .u8 c.info.seq, .int .u8 c.info.shape, .int .i64 c.info.max, .slice Ac4 c.info.groups.length cc4, .slice Ac5 c.sections.length cc5, .slice Ac6 c.steps.length cc6, .slice Ac7 c.tns.length cc7, .slice Ac8 c.lines.length cc8]), (1, .pointer (some ⟨g_1, 0, none⟩)), (2, .pointer (some ⟨g_2, 0, none⟩)), (6, .pointer (some ⟨g_1, 1, none⟩)), (7, .agg #[.int .u8 c.info.seq, .int .u8 c.info.shape, .int .i64 c.info.max, .slice Ac4 c.info.groups.length cc4]), (9, .pointer (some ⟨g_1, 5, none⟩)), (10, .slice Ac5 c.sections.length cc5), (12, .pointer (some ⟨g_1, 6, none⟩)), (13, .slice Ac6 c.steps.length cc6), (15, .pointer (some ⟨g_1, 7, none⟩)), (16, .slice Ac7 c.tns.length cc7), (18, .pointer (some ⟨g_1, 8, none⟩)), (19, .slice Ac8 c.lines.length cc8), (8, .agg #[.int .u8 c.info.seq, .int .u8 c.info.shape, .int .i64 c.info.max, .slice A_11 c.info.groups.length c_12]), (21, .pointer (some ⟨g_1, 1, none⟩)), (11, .slice A_376 c.sections.length c_377), (14, .slice A_386 c.steps.length c_387), (17, .slice A_396 c.tns.length c_397), (20, .slice A_407 c.lines.length c_408), (22, .pointer (some ⟨g_1, 5, none⟩)), (23, .pointer (some ⟨g_1, 6, none⟩)), (24, .pointer (some ⟨g_1, 7, none⟩)), (25, .pointer (some ⟨g_1, 8, none⟩)), (26, .pointer (some ⟨g_1, 7, none⟩)), (27, .slice A_396 c.tns.length c_397), (28, .int .i64 (c.tns.length : Int)), (29, .int .i64 j), (30, .bool (decide (j < (c.tns.length : Int)))), (4, .slice A_424 ((c.tns.getD (j).toNat default).length) c_425), (34, .int .i64 ((c.tns.getD (j).toNat default).length : Int)), (35, .int .i64 x.1)])) (fun (x : Int × Im) => ImLe S_391 x.2 ∧ 0 ≤ x.1 ∧ x.1 ≤ (c.tns.getD (j).toNat default).length ∧ RowOk (kSl kGFilter) x.2 A_396 c_397 cells_399 c.tns ∧ RdL (kSl (kAnyN 5)) (x.2.minus S_391) cells_399 (c.tns.map shp) ∧ RdA kGFilter x.2 A_424 c_425 (c.tns.getD (j).toNat default) ∧ RdA (kAnyN 5) (x.2.minus S_391) A_424 c_425 (shp (c.tns.getD (j).toNat default))) (fun (x : Int × Im) => ((c.tns.getD (j).toNat default).length - x.1).toNat) ((0, T1)) ⟨hle_417, ⟨by omega, by omega, q2, q3, h_426, hsj⟩⟩ rfl ⟨rfl, rfl, rfl, rfl, rfl, rfl, trivial⟩ ⟨rfl, rfl, rfl, rfl, rfl, rfl, rfl, rfl, rfl, rfl, rfl, rfl, rfl, rfl, rfl, rfl, rfl, rfl, rfl, rfl, rfl, rfl, rfl, rfl, rfl, rfl, rfl, rfl, rfl, rfl, rfl, trivial⟩ ?_
      rintro ⟨k, T2⟩ ⟨hle_428, ⟨s0, s1, s2, s3, s4, s5⟩⟩
      dsimp only at *
      refine C_seq ?_
      refine C_region rfl ?_
      refine T_pv rfl (pv_lss rfl rfl) ?_
      refine T_nil ?_
      refine N_then ?_
      refine C_seq ?_
      refine C_cond rfl (fun hb_429 => ?_) (fun hb_429 => ?_)
      · -- decide (k < ((c.tns.getD (j).toNat default).length : Int)) = true
        have hx_430 := of_decide_eq_true hb_429
        refine C_skip ?_
        refine N_then ?_
        refine C_seq ?_
        refine C_block ?_
        refine C_seq ?_
        refine C_region rfl ?_
        refine T_pv rfl (pv_move rfl) ?_
        refine T_pv rfl (pv_assign rfl) ?_
        refine T_nil ?_
        refine N_then ?_
        refine C_region rfl ?_
        refine T_pv rfl (pv_move rfl) ?_
        refine T_pv rfl (pv_move rfl) ?_
        refine T_pv rfl (pv_move rfl) ?_
        refine T_pv rfl (pv_move rfl) ?_
        obtain ⟨us_431, hk_432, he_433⟩ := RdA.elt s4 (i := k) (by omega) (by omega)
        obtain ⟨A_434, c_435, rfl, h_436, h_437, h_438⟩ := hk_432
        have hq_439 := InR.i64 h_436
        have hq_440 := InR.i64 h_437
        have hb_441 := h_438.bd
        refine T_pv rfl (pv_idx s4 rfl rfl el51 sz53 (by omega) (by omega)) ?_
        refine T_pv rfl (pv_fieldAddr rfl fl_53_4) ?_
        refine T_pv rfl (pv_load rfl ag30 ((he_433 _ _ (ImLe.refl _)).at_ 4 rfl)) ?_
        have zf : _ ≤ 2000 := zz.2.at_ (i := k) (by omega) (by omega)
        refine T_cons (op_call (fun _ h => by cases h; exact lt_of rfl) rfl rfl rfl en26 (f_CloneI _ _ _ (((c.tns.getD (j).toNat default).getD (k).toNat default).coefs) h_438 (by omega)) [121] trivial (by simp) (by decide) ?_)
        rintro v_449 S_447 L_450 ⟨A_442, c_443, r_444, cells_445, rfl, rfl, rfl, rfl, h_446⟩ hle_448
        have hb_451 := h_446.bd
        refine ⟨rfl, ?_⟩
        refine T_pv rfl (pv_idx s4 rfl rfl el51 sz53 (by omega) (by omega)) ?_
        refine T_pv rfl (pv_fieldAddr rfl fl_53_4) ?_
        refine T_freezeRow 121 rfl (fun S_452 hle_453 hz_454 => ?_)
        have hf_456 : RdA (kInt .i64) (S_452.minus T2) A_442 c_443 (((c.tns.getD (j).toNat default).getD (k).toNat default).coefs) := (hz_454 _ (ImLe.refl _) (kInt .i64) _ rfl (RowOk.any (S' := (T2.minus T2)) (fun _ _ _ _ h => h) h_446).len (((RowOk.any (S' := (T2.minus T2)) (fun _ _ _ _ h => h) h_446).mono (Im.minus_mono hle_453)).rd))
        obtain ⟨g, cs, T, fr, had, hg, hg0, hlt, hput⟩ := coef_put s4 s5 hle_453 hle_428 (k := k) (by omega) (by omega) hf_456
        refine T_cons (op_storeIm (ad := (adr A_424 ((k).toNat * 5)).add 4) rfl (by rw [had]) rfl rfl sz30 rfl (by rw [had]; exact hg) (by rw [had]; exact le_none (ImLe.trans (ImLe.trans hle_8 hle_382) hle_392) hg0) hlt ?_)
        rw [show ((adr A_424 ((k).toNat * 5)).add 4).block = g from by rw [had]]
        generalize hT3 : Im.put S_452 g (.cells (cs.setIfInBounds ((adr A_424 ((k).toNat * 5)).add 4).off (.slice A_442 (((c.tns.getD (j).toNat default).getD (k).toNat default).coefs).length c_443)) T fr) = T3
        obtain ⟨hle3, hch3, hrd3, hsh3⟩ := hput T3 hT3.symm
        have f_ok := RowOk.imp (s2.mono hle_453) (S' := T3) (fun cs x ⟨A, c, e, h⟩ => ⟨A, c, e, hrd3 _ _ _ h⟩)
        have f_sh : RdL (kSl (kAnyN 5)) (T3.minus S_391) cells_399 (c.tns.map shp) := RdL.imp (d := kSl (kAnyN 5)) (fun cs x h => by obtain ⟨A, c, e, h⟩ := h; exact ⟨A, c, e, hsh3 _ _ _ h⟩) (RdL.mono (Im.minus_mono hle_453) s3)
        have f_rd := hrd3 _ _ _ (s4.mono hle_453)
        have f_rs := hsh3 _ _ _ (s5.mono (Im.minus_mono hle_453))
        refine T_nil ?_
        refine N_block ?_
        refine N_then ?_
        refine C_region rfl ?_
        have hr_457 : InR .i64 (k + 1) := inR_i64 (by omega) (by omega)
        refine T_pv rfl (pv_add rfl rfl hr_457) ?_
        refine T_pv rfl (pv_move rfl) ?_
        refine T_nil ?_
        refine N_next ((k + 1, T3)) ⟨hle3, ⟨by omega, by omega, f_ok, f_sh, f_rd, f_rs⟩⟩ (by first | omega | (dsimp only; omega)) rfl ⟨rfl, rfl, rfl, rfl, rfl, rfl, trivial⟩ ⟨rfl, rfl, rfl, rfl, rfl, rfl, rfl, rfl, rfl, rfl, rfl, rfl, rfl, rfl, rfl, rfl, rfl, rfl, rfl, rfl, rfl, rfl, rfl, rfl, rfl, rfl, rfl, rfl, rfl, rfl, rfl, trivial⟩
      · -- decide (k < ((c.tns.getD (j).toNat default).length : Int)) = false
        have hx_458 := of_decide_eq_false hb_429
        refine C_exit ?_
        refine X_then ?_
        refine X_loop ?_
        refine X_block ?_
        refine N_block ?_
        refine N_then ?_
        refine C_region rfl ?_
        have hr_459 : InR .i64 (j + 1) := inR_i64 (by omega) (by omega)
        refine T_pv rfl (pv_add rfl rfl hr_459) ?_
        refine T_pv rfl (pv_move rfl) ?_
        refine T_nil ?_
        refine N_next ((j + 1, T2)) ⟨hle_428, ⟨by omega, by omega, s2, s3⟩⟩ (by first | omega | (dsimp only; omega)) rfl ⟨rfl, rfl, rfl, rfl, rfl, rfl, trivial⟩ ⟨rfl, rfl, rfl, rfl, rfl, rfl, rfl, rfl, rfl, rfl, rfl, rfl, rfl, rfl, rfl, rfl, rfl, rfl, rfl, rfl, rfl, rfl, rfl, rfl, rfl, rfl, rfl, trivial⟩
    · -- decide (j < (c.tns.length : Int)) = false
      have hx_460 := of_decide_eq_false hb_418
      refine C_exit ?_
      refine X_then ?_
      refine X_loop ?_
      refine X_block ?_
      refine N_then ?_
      refine C_seq ?_
      refine C_region rfl ?_
      refine T_pv rfl (pv_load_agg (cs := [.int .i64 c.gain, .int .u8 c.info.seq, .int .u8 c.info.shape, .int .i64 c.info.max, .slice A_11 c.info.groups.length c_12, .slice A_376 c.sections.length c_377, .slice A_386 c.steps.length c_387, .slice A_396 c.tns.length c_397, .slice A_407 c.lines.length c_408]) rfl ag37 sz37 rfl ⟨Cell.blk 101 rfl rfl, Cell.blk 101 rfl rfl, Cell.blk 101 rfl rfl, Cell.blk 101 rfl rfl, Cell.blk 101 rfl rfl, Cell.blk 101 rfl rfl, Cell.blk 101 rfl rfl, Cell.blk 101 rfl rfl, Cell.blk 101 rfl rfl, trivial⟩) ?_
      refine T_cons (op_store_any (vs := [.int .i64 c.gain, .int .u8 c.info.seq, .int .u8 c.info.shape, .int .i64 c.info.max, .slice A_11 c.info.groups.length c_12, .slice A_376 c.sections.length c_377, .slice A_386 c.steps.length c_387, .slice A_396 c.tns.length c_397, .slice A_407 c.lines.length c_408]) (cs' := [.int .i64 c.gain, .int .u8 c.info.seq, .int .u8 c.info.shape, .int .i64 c.info.max, .slice A_11 c.info.groups.length c_12, .slice A_376 c.sections.length c_377, .slice A_386 c.steps.length c_387, .slice A_396 c.tns.length c_397, .slice A_407 c.lines.length c_408]) 102 rfl rfl rfl sz37 (by simp [Value.oneCell']) rfl (Nat.le_of_ble_eq_true rfl) rfl ?_)
      refine T_nil ?_
      refine N_then ?_
      refine C_ret0 ?_
      -- ret 4: .agg #[.int .i64 c.gain, .int .u8 c.info.seq, .int .u8 c.info.shape, .int .i64 c.info.max, .slice A_11 c.info.groups.length c_12, .slice A_376 c.sections.length c_377, .slice A_386 c.steps.length c_387, .slice A_396 c.tns.length c_397, .slice A_407 c.lines.length c_408]
      refine G_freeze 117 rfl (fun S_461 hle_462 hz_463 => ?_)
      have hf_465 : RdA (kSl kGSection) (S_461.minus S_7) A_376 c_377 c.sections := (hz_463 _ (ImLe.trans (ImLe.trans hle_382 hle_392) hle_417) (kSl kGSection) _ rfl h_380.len (((h_380.mono (Im.minus_mono (ImLe.trans hle_392 hle_417))).mono (Im.minus_mono hle_462)).rd))
      refine G_freeze 118 rfl (fun S_466 hle_467 hz_468 => ?_)
      have hf_470 : RdA (kSl (kInt .i64)) (S_466.minus S_381) A_386 c_387 c.steps := (hz_468 _ (ImLe.trans (ImLe.trans hle_392 hle_417) hle_462) (kSl (kInt .i64)) _ rfl h_390.len (((h_390.mono (Im.minus_mono (ImLe.trans hle_417 hle_462))).mono (Im.minus_mono hle_467)).rd))
      refine G_freeze 119 rfl (fun S_471 hle_472 hz_473 => ?_)
      have hf_474 : RdA (kSl kGFilter) S_471 A_396 c_397 c.tns := (RowOk.frozen0 (q2.mono (ImLe.trans hle_462 hle_467)) hle_472 hz_473)
      refine G_freeze 120 rfl (fun S_475 hle_476 hz_477 => ?_)
      have hf_479 : RdA (kInt .i64) (S_475.minus S) A_407 c_408 c.lines := (hz_477 _ (ImLe.trans (ImLe.trans (ImLe.trans (ImLe.trans (ImLe.trans (ImLe.trans hle_8 hle_382) hle_392) hle_417) hle_462) hle_467) hle_472) (kInt .i64) _ rfl (RowOk.any (S' := (S_471.minus S)) (fun _ _ _ _ h => h) h_411).len (((RowOk.any (S' := (S_471.minus S)) (fun _ _ _ _ h => h) h_411).mono (Im.minus_mono hle_476)).rd))
      refine Q_ret (vs := [.agg #[.int .i64 c.gain, .int .u8 c.info.seq, .int .u8 c.info.shape, .int .i64 c.info.max, .slice A_11 c.info.groups.length c_12, .slice A_376 c.sections.length c_377, .slice A_386 c.steps.length c_387, .slice A_396 c.tns.length c_397, .slice A_407 c.lines.length c_408]]) ⟨⟨_, rfl, .inr ⟨[.int .i64 c.gain, .int .u8 c.info.seq, .int .u8 c.info.shape, .int .i64 c.info.max, .slice A_11 c.info.groups.length c_12, .slice A_376 c.sections.length c_377, .slice A_386 c.steps.length c_387, .slice A_396 c.tns.length c_397, .slice A_407 c.lines.length c_408], rfl, ag37, sz37, ⟨Cell.blk 102 rfl rfl, Cell.blk 102 rfl rfl, Cell.blk 102 rfl rfl, Cell.blk 102 rfl rfl, Cell.blk 102 rfl rfl, Cell.blk 102 rfl rfl, Cell.blk 102 rfl rfl, Cell.blk 102 rfl rfl, Cell.blk 102 rfl rfl, trivial⟩, rfl⟩⟩, trivial⟩ (L' := []) [] trivial (by simp) (by decide) (⟨_, c, rfl, rfl, ?_, ⟨_, _, _, _, _, _, _, _, _, _, rfl, hc0, h_13, h_14, h_15, (h_16.mono (ImLe.trans Im.minus_le (ImLe.trans (ImLe.trans (ImLe.trans (ImLe.trans (ImLe.trans (ImLe.trans hle_382 hle_392) hle_417) hle_462) hle_467) hle_472) hle_476))), (hf_465.mono (ImLe.trans Im.minus_le (ImLe.trans (ImLe.trans hle_467 hle_472) hle_476))), (hf_470.mono (ImLe.trans Im.minus_le (ImLe.trans hle_472 hle_476))), (hf_474.mono hle_476), (hf_479.mono Im.minus_le)⟩, ?_⟩)
      · rfl
      · exact ⟨_, _, rfl, hf_479⟩

end Go.Proofs.Ythamgiecgilmdaa
