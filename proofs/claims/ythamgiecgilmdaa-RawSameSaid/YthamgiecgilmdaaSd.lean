/- Walks, printed by wip/tool/walk2.py. -/
import Derived.Test.YthamgiecgilmdaaSc
namespace Go.Proofs.Ythamgiecgilmdaa
open Go Go.RowKit

set_option maxRecDepth 100000 in
theorem f_r18_Twin (S : Im) (c : GChan) (hc0 : InR .i64 c.gain) (hc1 : InR .u8 c.info.seq) (hc2 : InR .u8 c.info.shape) (hc3 : InR .i64 c.info.max) (Ac4 : Option Addr) (cc4 : Nat) (hc4 : RdA (kInt .i64) S Ac4 cc4 c.info.groups) (Ac5 : Option Addr) (cc5 : Nat) (hc5 : RdA (kSl kGSection) S Ac5 cc5 c.sections) (Ac6 : Option Addr) (cc6 : Nat) (hc6 : RdA (kSl (kInt .i64)) S Ac6 cc6 c.steps) (Ac7 : Option Addr) (cc7 : Nat) (hc7 : RdA (kSl kGFilter) S Ac7 cc7 c.tns) (Ac8 : Option Addr) (cc8 : Nat) (hc8 : RdA (kInt .i64) S Ac8 cc8 c.lines) (p0 : GChan.small c) : Fn Try.prog 21 [.agg #[.int .i64 c.gain, .int .u8 c.info.seq, .int .u8 c.info.shape, .int .i64 c.info.max, .slice Ac4 c.info.groups.length cc4, .slice Ac5 c.sections.length cc5, .slice Ac6 c.steps.length cc6, .slice Ac7 c.tns.length cc7, .slice Ac8 c.lines.length cc8]] S [] fun v S' L' => ∃ (ur0 : List Value) (r0 : GChan), v = .agg ur0.toArray ∧ L' = [] ∧ c = r0 ∧ kGChan.K (S'.minus S) ur0 r0 := by
  have hb_c0 := InR.i64 hc0
  have hb_c1 := InR.u8 hc1
  have hb_c2 := InR.u8 hc2
  have hb_c3 := InR.i64 hc3
  have hb_c4 := hc4.bd
  have hb_c5 := hc5.bd
  have hb_c6 := hc6.bd
  have hb_c7 := hc7.bd
  have hb_c8 := hc8.bd
  have z1 := p0.groups; have z2 := p0.sections; have z3 := p0.section1; have z4 := p0.steps; have z5 := p0.step1; have z6 := p0.tns; have z7 := p0.tns1; have z8 := p0.lines
  refine Fn_intro 98 Try.func21 rfl rfl rfl fun w0 => ?_
  refine C_seq ?_
  refine C_region rfl ?_
  refine T_cons (op_box (cs := [.int .i64 c.gain, .int .u8 c.info.seq, .int .u8 c.info.shape, .int .i64 c.info.max, .slice Ac4 c.info.groups.length cc4, .slice Ac5 c.sections.length cc5, .slice Ac6 c.steps.length cc6, .slice Ac7 c.tns.length cc7, .slice Ac8 c.lines.length cc8]) (lt_of rfl) 101 rfl rfl fun g_1 => ?_)
  refine T_cons (op_alloc (cs := [.int .i64 0, .int .u8 0, .int .u8 0, .int .i64 0, .slice none 0 0, .slice none 0 0, .slice none 0 0, .slice none 0 0, .slice none 0 0]) (lt_of rfl) 102 zr37 rfl fun g_2 => ?_)
  refine T_nil ?_
  refine N_then ?_
  refine C_seq ?_
  refine C_drawS (S) [(101, .blk g_1 [.int .i64 c.gain, .int .u8 c.info.seq, .int .u8 c.info.shape, .int .i64 c.info.max, .slice Ac4 c.info.groups.length cc4, .slice Ac5 c.sections.length cc5, .slice Ac6 c.steps.length cc6, .slice Ac7 c.tns.length cc7, .slice Ac8 c.lines.length cc8] 37), (102, .blk g_2 [.int .i64 0, .int .u8 0, .int .u8 0, .int .i64 0, .slice none 0 0, .slice none 0 0, .slice none 0 0, .slice none 0 0, .slice none 0 0] 37)] 7 (by kernel_rfl) rfl (fun h0_3 => ?_)
  refine A_take (i := 0) rfl (by kernel_rfl) (held_le ⟨rfl, rfl, trivial⟩ (ImLe.refl _) h0_3) rfl (pv_fieldAddr rfl fl_37_0) ?_
  refine A_take (i := 1) rfl (by kernel_rfl) (held_le ⟨rfl, rfl, trivial⟩ (ImLe.refl _) h0_3) rfl (pv_load rfl ag3 (Cell.blk 101 rfl rfl)) ?_
  refine A_take (i := 2) rfl (by kernel_rfl) (held_le ⟨rfl, rfl, trivial⟩ (ImLe.refl _) h0_3) rfl (pv_fieldAddr rfl fl_37_1) ?_
  refine A_take (i := 3) rfl (by kernel_rfl) (held_le ⟨rfl, rfl, trivial⟩ (ImLe.refl _) h0_3) rfl (pv_load_agg (cs := [.int .u8 c.info.seq, .int .u8 c.info.shape, .int .i64 c.info.max, .slice Ac4 c.info.groups.length cc4]) rfl ag32 sz32 rfl ⟨Cell.blk 101 rfl rfl, Cell.blk 101 rfl rfl, Cell.blk 101 rfl rfl, Cell.blk 101 rfl rfl, trivial⟩) ?_
  refine A_two (i := 4) (j := 6) (by kernel_rfl) ?_ ?_
  · -- number 4
    refine AS_op rfl (op_call (fun _ h => by cases h; exact lt_of rfl) rfl rfl rfl en41 (f_r10_Twin _ c.info hc1 hc2 hc3 _ _ hc4 (by omega)) [] trivial (by simp) (by decide) ?_)
    rintro v_9 S_7 L_10 ⟨us_4, r_5, rfl, rfl, rfl, h_6⟩ hle_8
    obtain ⟨A_11, c_12, rfl, h_13, h_14, h_15, h_16⟩ := h_6
    have hq_17 := InR.u8 h_13
    have hq_18 := InR.u8 h_14
    have hq_19 := InR.i64 h_15
    have hb_20 := h_16.bd
    refine ⟨rfl, ?_⟩
    refine ⟨fun _ => (held_le ⟨rfl, rfl, trivial⟩ hle_8 h0_3), ?_⟩
    refine A_take (i := 5) rfl (by kernel_rfl) (held_le ⟨rfl, rfl, trivial⟩ hle_8 h0_3) rfl (pv_buildL (cs := [.int .i64 c.gain, .int .u8 c.info.seq, .int .u8 c.info.shape, .int .i64 c.info.max, .slice A_11 c.info.groups.length c_12, .slice none 0 0, .slice none 0 0, .slice none 0 0, .slice none 0 0]) rfl zr37 pl37 rfl) ?_
    refine A_one (i := 6) (by kernel_rfl) ?_
    refine AS_op rfl (op_alloc (cs := [.int .i64 0, .int .u8 0, .int .u8 0, .int .i64 0, .slice none 0 0, .slice none 0 0, .slice none 0 0, .slice none 0 0, .slice none 0 0]) (lt_of rfl) 103 zr37 rfl fun g_21 => ?_)
    refine ⟨fun _ => (held_le ⟨rfl, rfl, trivial⟩ hle_8 h0_3), ?_⟩
    refine A_one (i := 7) (by kernel_rfl) ?_
    refine AS_op rfl (op_store_any (vs := [.int .i64 c.gain, .int .u8 c.info.seq, .int .u8 c.info.shape, .int .i64 c.info.max, .slice A_11 c.info.groups.length c_12, .slice none 0 0, .slice none 0 0, .slice none 0 0, .slice none 0 0]) (cs' := [.int .i64 c.gain, .int .u8 c.info.seq, .int .u8 c.info.shape, .int .i64 c.info.max, .slice A_11 c.info.groups.length c_12, .slice none 0 0, .slice none 0 0, .slice none 0 0, .slice none 0 0]) 103 rfl rfl rfl sz37 (by simp [Value.oneCell']) rfl (Nat.le_of_ble_eq_true rfl) rfl ?_)
    refine ⟨(fun h => by cases h), ?_⟩
    refine A_done (by kernel_rfl) ?_
    refine N_then ?_
    refine C_seq ?_
    refine C_region rfl ?_
    refine T_pv rfl (pv_fieldAddr rfl fl_37_5) ?_
    refine T_pv rfl (pv_load rfl ag30 (Cell.blk 103 rfl rfl)) ?_
    refine T_pv rfl (pv_fieldAddr rfl fl_37_5) ?_
    refine T_pv rfl (pv_load rfl ag30 (Cell.blk 101 rfl rfl)) ?_
    refine T_newNil 104 3 1 ?_
    obtain ⟨news_26, hs_27⟩ := RdA.src (hc8.mono hle_8)
    refine T_cons (op_appendR0 (lt_of rfl) 104 (RowOk.any (S' := (S_7.minus S)) (fun _ _ _ _ h => h) (RowOk.nil (kInt .i64) S_7)) (Src.any (fun _ _ _ _ h => h) (hs_27 _ _ (ImLe.refl _))) rfl rfl el30 sz3 zr3 rfl (by decide) bt3 rfl rfl (by first | omega | (simp only [List.length_append, List.length_cons, List.length_nil, List.length_take]; omega)) (by first | omega | (simp only [List.length_append, List.length_cons, List.length_nil, List.length_take]; omega)) fun A_22 c_23 cells_24 hro_25 => ?_)
    refine T_pv rfl (pv_fieldAddr rfl fl_37_5) ?_
    refine T_cons (op_store_any (vs := [.slice A_22 c.lines.length c_23]) (cs' := [.int .i64 c.gain, .int .u8 c.info.seq, .int .u8 c.info.shape, .int .i64 c.info.max, .slice A_11 c.info.groups.length c_12, .slice none 0 0, .slice none 0 0, .slice none 0 0, .slice A_22 c.lines.length c_23]) 103 rfl rfl rfl sz30 (by simp [Value.oneCell']) rfl (Nat.le_of_ble_eq_true rfl) rfl ?_)
    refine T_nil ?_
    refine N_then ?_
    refine C_seq ?_
    refine C_seq ?_
    refine C_region rfl ?_
    refine T_pv rfl (pv_assign rfl) ?_
    refine T_nil ?_
    refine N_then ?_
    refine C_block ?_
    refine C_newNil 105 50 1 ?_
    refine C_loop (fun (x : Int × Im × (Option Addr) × Nat × (List Value)) => (x.2.1, [(101, .blk g_1 [.int .i64 c.gain, .int .u8 c.info.seq, .int .u8 c.info.shape, .int .i64 c.info.max, .slice Ac4 c.info.groups.length cc4, .slice Ac5 c.sections.length cc5, .slice Ac6 c.steps.length cc6, .slice Ac7 c.tns.length cc7, .slice Ac8 c.lines.length cc8] 37), (102, .blk g_2 [.int .i64 0, .int .u8 0, .int .u8 0, .int .i64 0, .slice none 0 0, .slice none 0 0, .slice none 0 0, .slice none 0 0, .slice none 0 0] 37), (103, .blk g_21 [.int .i64 c.gain, .int .u8 c.info.seq, .int .u8 c.info.shape, .int .i64 c.info.max, .slice A_11 c.info.groups.length c_12, .slice x.2.2.1 ((c.sections.take (x.1).toNat).length) x.2.2.2.1, .slice none 0 0, .slice none 0 0, .slice A_22 c.lines.length c_23] 37), (104, .row (.slice A_22 c.lines.length c_23) 3 1 c.lines.length cells_24), (105, .row (.slice x.2.2.1 ((c.sections.take (x.1).toNat).length) x.2.2.2.1) 50 1 ((c.sections.take (x.1).toNat).length) x.2.2.2.2)], [(0, .agg #[.int .i64 c.gain, .int .u8 c.info.seq, .int .u8 c.info.shape, .int .i64 c.info.max, .slice Ac4 c.info.groups.length cc4, .slice Ac5 c.sections.length cc5, .slice Ac6 c.steps.length cc6, .slice Ac7 c.tns.length cc7, .slice Ac8 c.lines.length cc8]), (1, .pointer (some ⟨g_1, 0, none⟩)), (2, .pointer (some ⟨g_2, 0, none⟩)), (10, .pointer (some ⟨g_1, 0, none⟩)), (11, .int .i64 c.gain), (12, .pointer (some ⟨g_1, 1, none⟩)), (13, .agg #[.int .u8 c.info.seq, .int .u8 c.info.shape, .int .i64 c.info.max, .slice Ac4 c.info.groups.length cc4]), (14, .agg #[.int .u8 c.info.seq, .int .u8 c.info.shape, .int .i64 c.info.max, .slice A_11 c.info.groups.length c_12]), (15, .agg #[.int .i64 c.gain, .int .u8 c.info.seq, .int .u8 c.info.shape, .int .i64 c.info.max, .slice A_11 c.info.groups.length c_12, .slice none 0 0, .slice none 0 0, .slice none 0 0, .slice none 0 0]), (3, .pointer (some ⟨g_21, 0, none⟩)), (16, .pointer (some ⟨g_21, 8, none⟩)), (17, .slice none 0 0), (18, .pointer (some ⟨g_1, 8, none⟩)), (19, .slice Ac8 c.lines.length cc8), (20, .slice A_22 c.lines.length c_23), (21, .pointer (some ⟨g_21, 8, none⟩)), (4, .int .i64 x.1)])) (fun (x : Int × Im × (Option Addr) × Nat × (List Value)) => ImLe S_7 x.2.1 ∧ 0 ≤ x.1 ∧ x.1 ≤ c.sections.length ∧ RowOk (kSl kGSection) (x.2.1.minus S) x.2.2.1 x.2.2.2.1 x.2.2.2.2 (c.sections.take (x.1).toNat)) (fun (x : Int × Im × (Option Addr) × Nat × (List Value)) => (c.sections.length - x.1).toNat) ((0, S_7, none, 0, [])) ⟨(ImLe.refl _), ⟨by omega, by omega, RowOk.nil _ _⟩⟩ rfl ⟨rfl, rfl, rfl, rfl, rfl, trivial⟩ ⟨rfl, rfl, rfl, rfl, rfl, rfl, rfl, rfl, rfl, rfl, rfl, rfl, rfl, rfl, rfl, rfl, rfl, trivial⟩ ?_
    rintro ⟨i, T1, Ai, ci, ei⟩ ⟨hle_28, ⟨q0, q1, q2⟩⟩
    dsimp only at *
    refine C_seq ?_
    refine C_seq ?_
    refine C_region rfl ?_
    refine T_pv rfl (pv_move rfl) ?_
    refine T_pv rfl (pv_fieldAddr rfl fl_37_2) ?_
    refine T_pv rfl (pv_load rfl ag33 (Cell.blk 101 rfl rfl)) ?_
    refine T_pv rfl (pv_len rfl el33) ?_
    refine T_pv rfl (pv_lss rfl rfl) ?_
    refine T_nil ?_
    refine N_then ?_
    refine C_cond rfl (fun hb_29 => ?_) (fun hb_29 => ?_)
    · -- decide (i < (c.sections.length : Int)) = true
      have hx_30 := of_decide_eq_true hb_29
      refine C_skip ?_
      refine N_then ?_
      refine C_seq ?_
      refine C_block ?_
      refine C_drawS (T1) [(101, .blk g_1 [.int .i64 c.gain, .int .u8 c.info.seq, .int .u8 c.info.shape, .int .i64 c.info.max, .slice Ac4 c.info.groups.length cc4, .slice Ac5 c.sections.length cc5, .slice Ac6 c.steps.length cc6, .slice Ac7 c.tns.length cc7, .slice Ac8 c.lines.length cc8] 37), (102, .blk g_2 [.int .i64 0, .int .u8 0, .int .u8 0, .int .i64 0, .slice none 0 0, .slice none 0 0, .slice none 0 0, .slice none 0 0, .slice none 0 0] 37), (103, .blk g_21 [.int .i64 c.gain, .int .u8 c.info.seq, .int .u8 c.info.shape, .int .i64 c.info.max, .slice A_11 c.info.groups.length c_12, .slice Ai ((c.sections.take (i).toNat).length) ci, .slice none 0 0, .slice none 0 0, .slice A_22 c.lines.length c_23] 37)] 10 (by kernel_rfl) rfl (fun h0_31 => ?_)
      refine A_take (i := 0) rfl (by kernel_rfl) (held_le ⟨rfl, rfl, rfl, trivial⟩ (ImLe.refl _) h0_31) rfl (pv_fieldAddr rfl fl_37_2) ?_
      refine A_take (i := 1) rfl (by kernel_rfl) (held_le ⟨rfl, rfl, rfl, trivial⟩ (ImLe.refl _) h0_31) rfl (pv_load rfl ag33 (Cell.blk 103 rfl rfl)) ?_
      refine A_take (i := 2) rfl (by kernel_rfl) (held_le ⟨rfl, rfl, rfl, trivial⟩ (ImLe.refl _) h0_31) rfl (pv_fieldAddr rfl fl_37_2) ?_
      refine A_take (i := 3) rfl (by kernel_rfl) (held_le ⟨rfl, rfl, rfl, trivial⟩ (ImLe.refl _) h0_31) rfl (pv_load rfl ag33 (Cell.blk 101 rfl rfl)) ?_
      refine A_take (i := 4) rfl (by kernel_rfl) (held_le ⟨rfl, rfl, rfl, trivial⟩ (ImLe.refl _) h0_31) rfl (pv_move rfl) ?_
      obtain ⟨us_32, hk_33, he_34⟩ := RdA.elt hc5 (i := i) (by omega) (by omega)
      obtain ⟨A_35, c_36, rfl, h_37⟩ := hk_33
      have hb_38 := h_37.bd
      refine A_take (i := 5) rfl (by kernel_rfl) (held_le ⟨rfl, rfl, rfl, trivial⟩ (ImLe.refl _) h0_31) rfl (pv_idx hc5 rfl rfl el33 sz50 (by omega) (by omega)) ?_
      refine A_take (i := 6) rfl (by kernel_rfl) (held_le ⟨rfl, rfl, rfl, trivial⟩ (ImLe.refl _) h0_31) rfl (pv_load rfl ag50 ((he_34 _ _ (ImLe.trans hle_8 hle_28)).zero rfl)) ?_
      refine A_newNil 106 57 2 ?_
      refine A_one (i := 7) (by kernel_rfl) ?_
      have zz : _ ≤ 2000 := z3.at_ (i := i) (by omega) (by omega)
      obtain ⟨news_43, hs_44⟩ := RdA.src (h_37.mono (ImLe.trans hle_8 hle_28))
      refine AS_op rfl (op_appendR0 (lt_of rfl) 106 (RowOk.any (S' := (T1.minus S)) (fun _ _ _ _ h => h) (RowOk.nil kGSection T1)) (Src.any (fun _ _ _ _ h => h) (hs_44 _ _ (ImLe.refl _))) rfl rfl el50 sz57 zr57 rfl (by decide) bt57 rfl rfl (by first | omega | (simp only [List.length_append, List.length_cons, List.length_nil, List.length_take]; omega)) (by first | omega | (simp only [List.length_append, List.length_cons, List.length_nil, List.length_take]; omega)) fun A_39 c_40 cells_41 hro_42 => ?_)
      refine ⟨fun _ => (held_le ⟨rfl, rfl, rfl, trivial⟩ (ImLe.refl _) h0_31), ?_⟩
      refine A_freezeRow 106 rfl (fun S_45 hle_46 hz_47 => ?_)
      have hf_49 : RdA kGSection (S_45.minus S) A_39 c_40 (c.sections.getD (i).toNat default) := (hz_47 _ (ImLe.trans hle_8 hle_28) kGSection _ rfl hro_42.len ((hro_42.mono (Im.minus_mono hle_46)).rd))
      refine A_one (i := 8) (by kernel_rfl) ?_
      refine AS_op rfl (op_buildSlice1 (cs := [.slice A_39 ((c.sections.getD (i).toNat default).length) c_40]) (lt_of rfl) 107 rfl rfl el33 sz50 zr50 (by decide) (by decide) rfl fun g_50 => ?_)
      refine ⟨fun _ => (held_le ⟨rfl, rfl, rfl, trivial⟩ hle_46 h0_31), ?_⟩
      refine A_one (i := 9) (by kernel_rfl) ?_
      refine AS_op rfl (op_appendR (lt_of rfl) 105 (q2.mono (Im.minus_mono hle_46)) (RowOk.src (RowOk.lit1 (d := (kSl kGSection)) (S := (S_45.minus S)) (x := (c.sections.getD (i).toNat default)) g_50 ⟨_, _, rfl, hf_49⟩) 107 rfl) rfl rfl el33 sz50 zr50 rfl (by decide) bt50 rfl rfl (by first | omega | (simp only [List.length_append, List.length_cons, List.length_nil, List.length_take]; omega)) (by first | omega | (simp only [List.length_append, List.length_cons, List.length_nil, List.length_take]; omega)) fun A_51 c_52 cells_53 hro_54 => ?_)
      refine ⟨fun _ => (held_le ⟨rfl, rfl, rfl, trivial⟩ hle_46 h0_31), ?_⟩
      refine A_one (i := 10) (by kernel_rfl) ?_
      refine AS_op rfl (op_pv (lt_of rfl) (pv_fieldAddr rfl fl_37_2) ⟨(fun h => by cases h), ?_⟩)
      refine A_one (i := 11) (by kernel_rfl) ?_
      refine AS_op rfl (op_store_any (vs := [.slice A_51 (((c.sections.take (i).toNat) ++ [(c.sections.getD (i).toNat default)]).length) c_52]) (cs' := [.int .i64 c.gain, .int .u8 c.info.seq, .int .u8 c.info.shape, .int .i64 c.info.max, .slice A_11 c.info.groups.length c_12, .slice A_51 (((c.sections.take (i).toNat) ++ [(c.sections.getD (i).toNat default)]).length) c_52, .slice none 0 0, .slice none 0 0, .slice A_22 c.lines.length c_23]) 103 rfl rfl rfl sz33 (by simp [Value.oneCell']) rfl (Nat.le_of_ble_eq_true rfl) rfl ?_)
      refine ⟨(fun h => by cases h), ?_⟩
      refine A_done (by kernel_rfl) ?_
      refine N_block ?_
      refine N_then ?_
      refine C_region rfl ?_
      refine T_pv rfl (pv_move rfl) ?_
      have hr_55 : InR .i64 (i + 1) := inR_i64 (by omega) (by omega)
      refine T_pv rfl (pv_add rfl rfl hr_55) ?_
      refine T_pv rfl (pv_assign rfl) ?_
      refine T_nil ?_
      rw [take_snoc (xs := c.sections) (by omega) (by omega)] at hro_54 ⊢
      refine N_next ((i + 1, S_45, A_51, c_52, cells_53)) ⟨(ImLe.trans hle_28 hle_46), ⟨by omega, by omega, hro_54⟩⟩ (by first | omega | (dsimp only; omega)) rfl ⟨rfl, rfl, rfl, rfl, rfl, trivial⟩ ⟨rfl, rfl, rfl, rfl, rfl, rfl, rfl, rfl, rfl, rfl, rfl, rfl, rfl, rfl, rfl, rfl, rfl, trivial⟩
    · -- decide (i < (c.sections.length : Int)) = false
      have hx_56 := of_decide_eq_false hb_29
      refine C_exit ?_
      refine X_then ?_
      refine X_loop ?_
      refine X_block ?_
      refine N_then ?_
      refine C_seq ?_
      refine C_seq ?_
      refine C_region rfl ?_
      refine T_pv rfl (pv_assign rfl) ?_
      refine T_nil ?_
      refine N_then ?_
      refine C_block ?_
      refine C_newNil 108 30 1 ?_
      refine C_loop (fun (x : Int × Im × (Option Addr) × Nat × (List Value)) => (x.2.1, [(101, .blk g_1 [.int .i64 c.gain, .int .u8 c.info.seq, .int .u8 c.info.shape, .int .i64 c.info.max, .slice Ac4 c.info.groups.length cc4, .slice Ac5 c.sections.length cc5, .slice Ac6 c.steps.length cc6, .slice Ac7 c.tns.length cc7, .slice Ac8 c.lines.length cc8] 37), (102, .blk g_2 [.int .i64 0, .int .u8 0, .int .u8 0, .int .i64 0, .slice none 0 0, .slice none 0 0, .slice none 0 0, .slice none 0 0, .slice none 0 0] 37), (103, .blk g_21 [.int .i64 c.gain, .int .u8 c.info.seq, .int .u8 c.info.shape, .int .i64 c.info.max, .slice A_11 c.info.groups.length c_12, .slice Ai ((c.sections.take (i).toNat).length) ci, .slice x.2.2.1 ((c.steps.take (x.1).toNat).length) x.2.2.2.1, .slice none 0 0, .slice A_22 c.lines.length c_23] 37), (104, .row (.slice A_22 c.lines.length c_23) 3 1 c.lines.length cells_24), (105, .row (.slice Ai ((c.sections.take (i).toNat).length) ci) 50 1 ((c.sections.take (i).toNat).length) ei), (108, .row (.slice x.2.2.1 ((c.steps.take (x.1).toNat).length) x.2.2.2.1) 30 1 ((c.steps.take (x.1).toNat).length) x.2.2.2.2)], [(0, .agg #[.int .i64 c.gain, .int .u8 c.info.seq, .int .u8 c.info.shape, .int .i64 c.info.max, .slice Ac4 c.info.groups.length cc4, .slice Ac5 c.sections.length cc5, .slice Ac6 c.steps.length cc6, .slice Ac7 c.tns.length cc7, .slice Ac8 c.lines.length cc8]), (1, .pointer (some ⟨g_1, 0, none⟩)), (2, .pointer (some ⟨g_2, 0, none⟩)), (10, .pointer (some ⟨g_1, 0, none⟩)), (11, .int .i64 c.gain), (12, .pointer (some ⟨g_1, 1, none⟩)), (13, .agg #[.int .u8 c.info.seq, .int .u8 c.info.shape, .int .i64 c.info.max, .slice Ac4 c.info.groups.length cc4]), (14, .agg #[.int .u8 c.info.seq, .int .u8 c.info.shape, .int .i64 c.info.max, .slice A_11 c.info.groups.length c_12]), (15, .agg #[.int .i64 c.gain, .int .u8 c.info.seq, .int .u8 c.info.shape, .int .i64 c.info.max, .slice A_11 c.info.groups.length c_12, .slice none 0 0, .slice none 0 0, .slice none 0 0, .slice none 0 0]), (3, .pointer (some ⟨g_21, 0, none⟩)), (16, .pointer (some ⟨g_21, 8, none⟩)), (17, .slice none 0 0), (18, .pointer (some ⟨g_1, 8, none⟩)), (19, .slice Ac8 c.lines.length cc8), (20, .slice A_22 c.lines.length c_23), (21, .pointer (some ⟨g_21, 8, none⟩)), (4, .int .i64 i), (22, .int .i64 i), (23, .pointer (some ⟨g_1, 5, none⟩)), (24, .slice Ac5 c.sections.length cc5), (25, .int .i64 (c.sections.length : Int)), (26, .bool (decide (i < (c.sections.length : Int)))), (5, .int .i64 x.1)])) (fun (x : Int × Im × (Option Addr) × Nat × (List Value)) => ImLe T1 x.2.1 ∧ 0 ≤ x.1 ∧ x.1 ≤ c.steps.length ∧ RowOk (kSl (kInt .i64)) (x.2.1.minus S) x.2.2.1 x.2.2.2.1 x.2.2.2.2 (c.steps.take (x.1).toNat)) (fun (x : Int × Im × (Option Addr) × Nat × (List Value)) => (c.steps.length - x.1).toNat) ((0, T1, none, 0, [])) ⟨(ImLe.refl _), ⟨by omega, by omega, RowOk.nil _ _⟩⟩ rfl ⟨rfl, rfl, rfl, rfl, rfl, rfl, trivial⟩ ⟨rfl, rfl, rfl, rfl, rfl, rfl, rfl, rfl, rfl, rfl, rfl, rfl, rfl, rfl, rfl, rfl, rfl, rfl, rfl, rfl, rfl, rfl, rfl, trivial⟩ ?_
      rintro ⟨k, T2, Ak, ck, ek⟩ ⟨hle_57, ⟨s0, s1, s2⟩⟩
      dsimp only at *
      refine C_seq ?_
      refine C_seq ?_
      refine C_region rfl ?_
      refine T_pv rfl (pv_move rfl) ?_
      refine T_pv rfl (pv_fieldAddr rfl fl_37_3) ?_
      refine T_pv rfl (pv_load rfl ag34 (Cell.blk 101 rfl rfl)) ?_
      refine T_pv rfl (pv_len rfl el34) ?_
      refine T_pv rfl (pv_lss rfl rfl) ?_
      refine T_nil ?_
      refine N_then ?_
      refine C_cond rfl (fun hb_58 => ?_) (fun hb_58 => ?_)
      · -- decide (k < (c.steps.length : Int)) = true
        have hx_59 := of_decide_eq_true hb_58
        refine C_skip ?_
        refine N_then ?_
        refine C_seq ?_
        refine C_block ?_
        refine C_drawS (T2) [(101, .blk g_1 [.int .i64 c.gain, .int .u8 c.info.seq, .int .u8 c.info.shape, .int .i64 c.info.max, .slice Ac4 c.info.groups.length cc4, .slice Ac5 c.sections.length cc5, .slice Ac6 c.steps.length cc6, .slice Ac7 c.tns.length cc7, .slice Ac8 c.lines.length cc8] 37), (102, .blk g_2 [.int .i64 0, .int .u8 0, .int .u8 0, .int .i64 0, .slice none 0 0, .slice none 0 0, .slice none 0 0, .slice none 0 0, .slice none 0 0] 37), (103, .blk g_21 [.int .i64 c.gain, .int .u8 c.info.seq, .int .u8 c.info.shape, .int .i64 c.info.max, .slice A_11 c.info.groups.length c_12, .slice Ai ((c.sections.take (i).toNat).length) ci, .slice Ak ((c.steps.take (k).toNat).length) ck, .slice none 0 0, .slice A_22 c.lines.length c_23] 37)] 10 (by kernel_rfl) rfl (fun h0_60 => ?_)
        refine A_take (i := 0) rfl (by kernel_rfl) (held_le ⟨rfl, rfl, rfl, trivial⟩ (ImLe.refl _) h0_60) rfl (pv_fieldAddr rfl fl_37_3) ?_
        refine A_take (i := 1) rfl (by kernel_rfl) (held_le ⟨rfl, rfl, rfl, trivial⟩ (ImLe.refl _) h0_60) rfl (pv_load rfl ag34 (Cell.blk 103 rfl rfl)) ?_
        refine A_take (i := 2) rfl (by kernel_rfl) (held_le ⟨rfl, rfl, rfl, trivial⟩ (ImLe.refl _) h0_60) rfl (pv_fieldAddr rfl fl_37_3) ?_
        refine A_take (i := 3) rfl (by kernel_rfl) (held_le ⟨rfl, rfl, rfl, trivial⟩ (ImLe.refl _) h0_60) rfl (pv_load rfl ag34 (Cell.blk 101 rfl rfl)) ?_
        refine A_take (i := 4) rfl (by kernel_rfl) (held_le ⟨rfl, rfl, rfl, trivial⟩ (ImLe.refl _) h0_60) rfl (pv_move rfl) ?_
        obtain ⟨us_61, hk_62, he_63⟩ := RdA.elt hc6 (i := k) (by omega) (by omega)
        obtain ⟨A_64, c_65, rfl, h_66⟩ := hk_62
        have hb_67 := h_66.bd
        refine A_take (i := 5) rfl (by kernel_rfl) (held_le ⟨rfl, rfl, rfl, trivial⟩ (ImLe.refl _) h0_60) rfl (pv_idx hc6 rfl rfl el34 sz30 (by omega) (by omega)) ?_
        refine A_take (i := 6) rfl (by kernel_rfl) (held_le ⟨rfl, rfl, rfl, trivial⟩ (ImLe.refl _) h0_60) rfl (pv_load rfl ag30 ((he_63 _ _ (ImLe.trans (ImLe.trans hle_8 hle_28) hle_57)).zero rfl)) ?_
        refine A_newNil 109 3 1 ?_
        refine A_one (i := 7) (by kernel_rfl) ?_
        have zz : _ ≤ 2000 := z5.at_ (i := k) (by omega) (by omega)
        obtain ⟨news_72, hs_73⟩ := RdA.src (h_66.mono (ImLe.trans (ImLe.trans hle_8 hle_28) hle_57))
        refine AS_op rfl (op_appendR0 (lt_of rfl) 109 (RowOk.any (S' := (T2.minus S)) (fun _ _ _ _ h => h) (RowOk.nil (kInt .i64) T2)) (Src.any (fun _ _ _ _ h => h) (hs_73 _ _ (ImLe.refl _))) rfl rfl el30 sz3 zr3 rfl (by decide) bt3 rfl rfl (by first | omega | (simp only [List.length_append, List.length_cons, List.length_nil, List.length_take]; omega)) (by first | omega | (simp only [List.length_append, List.length_cons, List.length_nil, List.length_take]; omega)) fun A_68 c_69 cells_70 hro_71 => ?_)
        refine ⟨fun _ => (held_le ⟨rfl, rfl, rfl, trivial⟩ (ImLe.refl _) h0_60), ?_⟩
        refine A_freezeRow 109 rfl (fun S_74 hle_75 hz_76 => ?_)
        have hf_78 : RdA (kInt .i64) (S_74.minus S) A_68 c_69 (c.steps.getD (k).toNat default) := (hz_76 _ (ImLe.trans (ImLe.trans hle_8 hle_28) hle_57) (kInt .i64) _ rfl hro_71.len ((hro_71.mono (Im.minus_mono hle_75)).rd))
        refine A_one (i := 8) (by kernel_rfl) ?_
        refine AS_op rfl (op_buildSlice1 (cs := [.slice A_68 ((c.steps.getD (k).toNat default).length) c_69]) (lt_of rfl) 110 rfl rfl el34 sz30 zr30 (by decide) (by decide) rfl fun g_79 => ?_)
        refine ⟨fun _ => (held_le ⟨rfl, rfl, rfl, trivial⟩ hle_75 h0_60), ?_⟩
        refine A_one (i := 9) (by kernel_rfl) ?_
        refine AS_op rfl (op_appendR (lt_of rfl) 108 (s2.mono (Im.minus_mono hle_75)) (RowOk.src (RowOk.lit1 (d := (kSl (kInt .i64))) (S := (S_74.minus S)) (x := (c.steps.getD (k).toNat default)) g_79 ⟨_, _, rfl, hf_78⟩) 110 rfl) rfl rfl el34 sz30 zr30 rfl (by decide) bt30 rfl rfl (by first | omega | (simp only [List.length_append, List.length_cons, List.length_nil, List.length_take]; omega)) (by first | omega | (simp only [List.length_append, List.length_cons, List.length_nil, List.length_take]; omega)) fun A_80 c_81 cells_82 hro_83 => ?_)
        refine ⟨fun _ => (held_le ⟨rfl, rfl, rfl, trivial⟩ hle_75 h0_60), ?_⟩
        refine A_one (i := 10) (by kernel_rfl) ?_
        refine AS_op rfl (op_pv (lt_of rfl) (pv_fieldAddr rfl fl_37_3) ⟨(fun h => by cases h), ?_⟩)
        refine A_one (i := 11) (by kernel_rfl) ?_
        refine AS_op rfl (op_store_any (vs := [.slice A_80 (((c.steps.take (k).toNat) ++ [(c.steps.getD (k).toNat default)]).length) c_81]) (cs' := [.int .i64 c.gain, .int .u8 c.info.seq, .int .u8 c.info.shape, .int .i64 c.info.max, .slice A_11 c.info.groups.length c_12, .slice Ai ((c.sections.take (i).toNat).length) ci, .slice A_80 (((c.steps.take (k).toNat) ++ [(c.steps.getD (k).toNat default)]).length) c_81, .slice none 0 0, .slice A_22 c.lines.length c_23]) 103 rfl rfl rfl sz34 (by simp [Value.oneCell']) rfl (Nat.le_of_ble_eq_true rfl) rfl ?_)
        refine ⟨(fun h => by cases h), ?_⟩
        refine A_done (by kernel_rfl) ?_
        refine N_block ?_
        refine N_then ?_
        refine C_region rfl ?_
        refine T_pv rfl (pv_move rfl) ?_
        have hr_84 : InR .i64 (k + 1) := inR_i64 (by omega) (by omega)
        refine T_pv rfl (pv_add rfl rfl hr_84) ?_
        refine T_pv rfl (pv_assign rfl) ?_
        refine T_nil ?_
        rw [take_snoc (xs := c.steps) (by omega) (by omega)] at hro_83 ⊢
        refine N_next ((k + 1, S_74, A_80, c_81, cells_82)) ⟨(ImLe.trans hle_57 hle_75), ⟨by omega, by omega, hro_83⟩⟩ (by first | omega | (dsimp only; omega)) rfl ⟨rfl, rfl, rfl, rfl, rfl, rfl, trivial⟩ ⟨rfl, rfl, rfl, rfl, rfl, rfl, rfl, rfl, rfl, rfl, rfl, rfl, rfl, rfl, rfl, rfl, rfl, rfl, rfl, rfl, rfl, rfl, rfl, trivial⟩
      · -- decide (k < (c.steps.length : Int)) = false
        have hx_85 := of_decide_eq_false hb_58
        refine C_exit ?_
        refine X_then ?_
        refine X_loop ?_
        refine X_block ?_
        refine N_then ?_
        refine C_seq ?_
        refine C_seq ?_
        refine C_region rfl ?_
        refine T_pv rfl (pv_assign rfl) ?_
        refine T_nil ?_
        refine N_then ?_
        refine C_block ?_
        refine C_newNil 111 51 1 ?_
        refine C_loop (fun (x : Int × Im × (Option Addr) × Nat × (List Value)) => (x.2.1, [(101, .blk g_1 [.int .i64 c.gain, .int .u8 c.info.seq, .int .u8 c.info.shape, .int .i64 c.info.max, .slice Ac4 c.info.groups.length cc4, .slice Ac5 c.sections.length cc5, .slice Ac6 c.steps.length cc6, .slice Ac7 c.tns.length cc7, .slice Ac8 c.lines.length cc8] 37), (102, .blk g_2 [.int .i64 0, .int .u8 0, .int .u8 0, .int .i64 0, .slice none 0 0, .slice none 0 0, .slice none 0 0, .slice none 0 0, .slice none 0 0] 37), (103, .blk g_21 [.int .i64 c.gain, .int .u8 c.info.seq, .int .u8 c.info.shape, .int .i64 c.info.max, .slice A_11 c.info.groups.length c_12, .slice Ai ((c.sections.take (i).toNat).length) ci, .slice Ak ((c.steps.take (k).toNat).length) ck, .slice x.2.2.1 ((c.tns.take (x.1).toNat).length) x.2.2.2.1, .slice A_22 c.lines.length c_23] 37), (104, .row (.slice A_22 c.lines.length c_23) 3 1 c.lines.length cells_24), (105, .row (.slice Ai ((c.sections.take (i).toNat).length) ci) 50 1 ((c.sections.take (i).toNat).length) ei), (108, .row (.slice Ak ((c.steps.take (k).toNat).length) ck) 30 1 ((c.steps.take (k).toNat).length) ek), (111, .row (.slice x.2.2.1 ((c.tns.take (x.1).toNat).length) x.2.2.2.1) 51 1 ((c.tns.take (x.1).toNat).length) x.2.2.2.2)], [(0, .agg #[.int .i64 c.gain, .int .u8 c.info.seq, .int .u8 c.info.shape, .int .i64 c.info.max, .slice Ac4 c.info.groups.length cc4, .slice Ac5 c.sections.length cc5, .slice Ac6 c.steps.length cc6, .slice Ac7 c.tns.length cc7, .slice Ac8 c.lines.length cc8]), (1, .pointer (some ⟨g_1, 0, none⟩)), (2, .pointer (some ⟨g_2, 0, none⟩)), (10, .pointer (some ⟨g_1, 0, none⟩)), (11, .int .i64 c.gain), (12, .pointer (some ⟨g_1, 1, none⟩)), (13, .agg #[.int .u8 c.info.seq, .int .u8 c.info.shape, .int .i64 c.info.max, .slice Ac4 c.info.groups.length cc4]), (14, .agg #[.int .u8 c.info.seq, .int .u8 c.info.shape, .int .i64 c.info.max, .slice A_11 c.info.groups.length c_12]), (15, .agg #[.int .i64 c.gain, .int .u8 c.info.seq, .int .u8 c.info.shape, .int .i64 c.info.max, .slice A_11 c.info.groups.length c_12, .slice none 0 0, .slice none 0 0, .slice none 0 0, .slice none 0 0]), (3, .pointer (some ⟨g_21, 0, none⟩)), (16, .pointer (some ⟨g_21, 8, none⟩)), (17, .slice none 0 0), (18, .pointer (some ⟨g_1, 8, none⟩)), (19, .slice Ac8 c.lines.length cc8), (20, .slice A_22 c.lines.length c_23), (21, .pointer (some ⟨g_21, 8, none⟩)), (4, .int .i64 i), (22, .int .i64 i), (23, .pointer (some ⟨g_1, 5, none⟩)), (24, .slice Ac5 c.sections.length cc5), (25, .int .i64 (c.sections.length : Int)), (26, .bool (decide (i < (c.sections.length : Int)))), (5, .int .i64 k), (40, .int .i64 k), (41, .pointer (some ⟨g_1, 6, none⟩)), (42, .slice Ac6 c.steps.length cc6), (43, .int .i64 (c.steps.length : Int)), (44, .bool (decide (k < (c.steps.length : Int)))), (6, .int .i64 x.1)])) (fun (x : Int × Im × (Option Addr) × Nat × (List Value)) => ImLe T2 x.2.1 ∧ 0 ≤ x.1 ∧ x.1 ≤ c.tns.length ∧ RowOk (kSl kGFilter) (x.2.1.minus S) x.2.2.1 x.2.2.2.1 x.2.2.2.2 (c.tns.take (x.1).toNat)) (fun (x : Int × Im × (Option Addr) × Nat × (List Value)) => (c.tns.length - x.1).toNat) ((0, T2, none, 0, [])) ⟨(ImLe.refl _), ⟨by omega, by omega, RowOk.nil _ _⟩⟩ rfl ⟨rfl, rfl, rfl, rfl, rfl, rfl, rfl, trivial⟩ ⟨rfl, rfl, rfl, rfl, rfl, rfl, rfl, rfl, rfl, rfl, rfl, rfl, rfl, rfl, rfl, rfl, rfl, rfl, rfl, rfl, rfl, rfl, rfl, rfl, rfl, rfl, rfl, rfl, rfl, trivial⟩ ?_
        rintro ⟨u, T3, Au, cu, eu⟩ ⟨hle_86, ⟨t0, t1, t2⟩⟩
        dsimp only at *
        refine C_seq ?_
        refine C_seq ?_
        refine C_region rfl ?_
        refine T_pv rfl (pv_move rfl) ?_
        refine T_pv rfl (pv_fieldAddr rfl fl_37_4) ?_
        refine T_pv rfl (pv_load rfl ag35 (Cell.blk 101 rfl rfl)) ?_
        refine T_pv rfl (pv_len rfl el35) ?_
        refine T_pv rfl (pv_lss rfl rfl) ?_
        refine T_nil ?_
        refine N_then ?_
        refine C_cond rfl (fun hb_87 => ?_) (fun hb_87 => ?_)
        · -- decide (u < (c.tns.length : Int)) = true
          have hx_88 := of_decide_eq_true hb_87
          refine C_skip ?_
          refine N_then ?_
          refine C_seq ?_
          refine C_block ?_
          refine C_seq ?_
          refine C_region rfl ?_
          refine T_pv rfl (pv_assign rfl) ?_
          refine T_nil ?_
          refine N_then ?_
          refine C_seq ?_
          refine C_seq ?_
          refine C_region rfl ?_
          refine T_pv rfl (pv_assign rfl) ?_
          refine T_nil ?_
          refine N_then ?_
          refine C_block ?_
          have zz := z7.at_ (i := u) (by omega) (by omega)
          refine C_newNil 112 53 5 ?_
          refine C_loop (fun (x : Int × Im × (Option Addr) × Nat × (List Value)) => (x.2.1, [(101, .blk g_1 [.int .i64 c.gain, .int .u8 c.info.seq, .int .u8 c.info.shape, .int .i64 c.info.max, .slice Ac4 c.info.groups.length cc4, .slice Ac5 c.sections.length cc5, .slice Ac6 c.steps.length cc6, .slice Ac7 c.tns.length cc7, .slice Ac8 c.lines.length cc8] 37), (102, .blk g_2 [.int .i64 0, .int .u8 0, .int .u8 0, .int .i64 0, .slice none 0 0, .slice none 0 0, .slice none 0 0, .slice none 0 0, .slice none 0 0] 37), (103, .blk g_21 [.int .i64 c.gain, .int .u8 c.info.seq, .int .u8 c.info.shape, .int .i64 c.info.max, .slice A_11 c.info.groups.length c_12, .slice Ai ((c.sections.take (i).toNat).length) ci, .slice Ak ((c.steps.take (k).toNat).length) ck, .slice Au ((c.tns.take (u).toNat).length) cu, .slice A_22 c.lines.length c_23] 37), (104, .row (.slice A_22 c.lines.length c_23) 3 1 c.lines.length cells_24), (105, .row (.slice Ai ((c.sections.take (i).toNat).length) ci) 50 1 ((c.sections.take (i).toNat).length) ei), (108, .row (.slice Ak ((c.steps.take (k).toNat).length) ck) 30 1 ((c.steps.take (k).toNat).length) ek), (111, .row (.slice Au ((c.tns.take (u).toNat).length) cu) 51 1 ((c.tns.take (u).toNat).length) eu), (112, .row (.slice x.2.2.1 (((c.tns.getD (u).toNat default).take (x.1).toNat).length) x.2.2.2.1) 53 5 (((c.tns.getD (u).toNat default).take (x.1).toNat).length) x.2.2.2.2)], [(0, .agg #[.int .i64 c.gain, .int .u8 c.info.seq, .int .u8 c.info.shape, .int .i64 c.info.max, .slice Ac4 c.info.groups.length cc4, .slice Ac5 c.sections.length cc5, .slice Ac6 c.steps.length cc6, .slice Ac7 c.tns.length cc7, .slice Ac8 c.lines.length cc8]), (1, .pointer (some ⟨g_1, 0, none⟩)), (2, .pointer (some ⟨g_2, 0, none⟩)), (10, .pointer (some ⟨g_1, 0, none⟩)), (11, .int .i64 c.gain), (12, .pointer (some ⟨g_1, 1, none⟩)), (13, .agg #[.int .u8 c.info.seq, .int .u8 c.info.shape, .int .i64 c.info.max, .slice Ac4 c.info.groups.length cc4]), (14, .agg #[.int .u8 c.info.seq, .int .u8 c.info.shape, .int .i64 c.info.max, .slice A_11 c.info.groups.length c_12]), (15, .agg #[.int .i64 c.gain, .int .u8 c.info.seq, .int .u8 c.info.shape, .int .i64 c.info.max, .slice A_11 c.info.groups.length c_12, .slice none 0 0, .slice none 0 0, .slice none 0 0, .slice none 0 0]), (3, .pointer (some ⟨g_21, 0, none⟩)), (16, .pointer (some ⟨g_21, 8, none⟩)), (17, .slice none 0 0), (18, .pointer (some ⟨g_1, 8, none⟩)), (19, .slice Ac8 c.lines.length cc8), (20, .slice A_22 c.lines.length c_23), (21, .pointer (some ⟨g_21, 8, none⟩)), (4, .int .i64 i), (22, .int .i64 i), (23, .pointer (some ⟨g_1, 5, none⟩)), (24, .slice Ac5 c.sections.length cc5), (25, .int .i64 (c.sections.length : Int)), (26, .bool (decide (i < (c.sections.length : Int)))), (5, .int .i64 k), (40, .int .i64 k), (41, .pointer (some ⟨g_1, 6, none⟩)), (42, .slice Ac6 c.steps.length cc6), (43, .int .i64 (c.steps.length : Int)), (44, .bool (decide (k < (c.steps.length : Int)))), (6, .int .i64 u), (58, .int .i64 u), (59, .pointer (some ⟨g_1, 7, none⟩)), (60, .slice Ac7 c.tns.length cc7), (61, .int .i64 (c.tns.length : Int)), (62, .bool (decide (u < (c.tns.length : Int)))), (7, .slice x.2.2.1 (((c.tns.getD (u).toNat default).take (x.1).toNat).length) x.2.2.2.1), (8, .int .i64 x.1)])) (fun (x : Int × Im × (Option Addr) × Nat × (List Value)) => ImLe T3 x.2.1 ∧ 0 ≤ x.1 ∧ x.1 ≤ (c.tns.getD (u).toNat default).length ∧ RowOk kGFilter (x.2.1.minus S) x.2.2.1 x.2.2.2.1 x.2.2.2.2 ((c.tns.getD (u).toNat default).take (x.1).toNat)) (fun (x : Int × Im × (Option Addr) × Nat × (List Value)) => ((c.tns.getD (u).toNat default).length - x.1).toNat) ((0, T3, none, 0, [])) ⟨(ImLe.refl _), ⟨by omega, by omega, RowOk.nil _ _⟩⟩ rfl ⟨rfl, rfl, rfl, rfl, rfl, rfl, rfl, rfl, trivial⟩ ⟨rfl, rfl, rfl, rfl, rfl, rfl, rfl, rfl, rfl, rfl, rfl, rfl, rfl, rfl, rfl, rfl, rfl, rfl, rfl, rfl, rfl, rfl, rfl, rfl, rfl, rfl, rfl, rfl, rfl, rfl, rfl, rfl, rfl, rfl, rfl, rfl, trivial⟩ ?_
          rintro ⟨v, T4, Av, cv, ev⟩ ⟨hle_89, ⟨w0', w1, w2⟩⟩
          dsimp only at *
          refine C_seq ?_
          refine C_seq ?_
          refine C_region rfl ?_
          refine T_pv rfl (pv_move rfl) ?_
          refine T_pv rfl (pv_fieldAddr rfl fl_37_4) ?_
          refine T_pv rfl (pv_load rfl ag35 (Cell.blk 101 rfl rfl)) ?_
          refine T_pv rfl (pv_move rfl) ?_
          obtain ⟨us_90, hk_91, he_92⟩ := RdA.elt hc7 (i := u) (by omega) (by omega)
          obtain ⟨A_93, c_94, rfl, h_95⟩ := hk_91
          have hb_96 := h_95.bd
          refine T_pv rfl (pv_idx hc7 rfl rfl el35 sz51 (by omega) (by omega)) ?_
          refine T_pv rfl (pv_load rfl ag51 ((he_92 _ _ (ImLe.trans (ImLe.trans (ImLe.trans (ImLe.trans hle_8 hle_28) hle_57) hle_86) hle_89)).zero rfl)) ?_
          refine T_pv rfl (pv_len rfl el51) ?_
          refine T_pv rfl (pv_lss rfl rfl) ?_
          refine T_nil ?_
          refine N_then ?_
          refine C_cond rfl (fun hb_97 => ?_) (fun hb_97 => ?_)
          · -- decide (v < ((c.tns.getD (u).toNat default).length : Int)) = true
            have hx_98 := of_decide_eq_true hb_97
            refine C_skip ?_
            refine N_then ?_
            refine C_seq ?_
            refine C_block ?_
            refine C_seq ?_
            refine C_region rfl ?_
            refine T_pv rfl (pv_fieldAddr rfl fl_37_4) ?_
            refine T_pv rfl (pv_load rfl ag35 (Cell.blk 101 rfl rfl)) ?_
            refine T_pv rfl (pv_move rfl) ?_
            refine T_pv rfl (pv_idx hc7 rfl rfl el35 sz51 (by omega) (by omega)) ?_
            refine T_pv rfl (pv_load rfl ag51 ((he_92 _ _ (ImLe.trans (ImLe.trans (ImLe.trans (ImLe.trans hle_8 hle_28) hle_57) hle_86) hle_89)).zero rfl)) ?_
            refine T_pv rfl (pv_move rfl) ?_
            obtain ⟨us_99, hk_100, he_101⟩ := RdA.elt h_95 (i := v) (by omega) (by omega)
            obtain ⟨A_102, c_103, rfl, h_104, h_105, h_106⟩ := hk_100
            have hq_107 := InR.i64 h_104
            have hq_108 := InR.i64 h_105
            have hb_109 := h_106.bd
            refine T_pv rfl (pv_idx h_95 rfl rfl el51 sz53 (by omega) (by omega)) ?_
            refine T_pv rfl (pv_load_aggE (cs := [.int .i64 (((c.tns.getD (u).toNat default).getD (v).toNat default).len), .int .i64 (((c.tns.getD (u).toNat default).getD (v).toNat default).order), .bool (((c.tns.getD (u).toNat default).getD (v).toNat default).down), .bool (((c.tns.getD (u).toNat default).getD (v).toNat default).fine), .slice A_102 ((((c.tns.getD (u).toNat default).getD (v).toNat default).coefs).length) c_103]) rfl ag53 sz53 (he_101 _ _ (ImLe.trans (ImLe.trans (ImLe.trans (ImLe.trans hle_8 hle_28) hle_57) hle_86) hle_89))) ?_
            refine T_cons (op_alloc (cs := [.int .i64 0, .int .i64 0, .bool false, .bool false, .slice none 0 0]) (lt_of rfl) 113 zr53 rfl fun g_110 => ?_)
            refine T_cons (op_store_any (vs := [.int .i64 (((c.tns.getD (u).toNat default).getD (v).toNat default).len), .int .i64 (((c.tns.getD (u).toNat default).getD (v).toNat default).order), .bool (((c.tns.getD (u).toNat default).getD (v).toNat default).down), .bool (((c.tns.getD (u).toNat default).getD (v).toNat default).fine), .slice A_102 ((((c.tns.getD (u).toNat default).getD (v).toNat default).coefs).length) c_103]) (cs' := [.int .i64 (((c.tns.getD (u).toNat default).getD (v).toNat default).len), .int .i64 (((c.tns.getD (u).toNat default).getD (v).toNat default).order), .bool (((c.tns.getD (u).toNat default).getD (v).toNat default).down), .bool (((c.tns.getD (u).toNat default).getD (v).toNat default).fine), .slice A_102 ((((c.tns.getD (u).toNat default).getD (v).toNat default).coefs).length) c_103]) 113 rfl rfl rfl sz53 (by simp [Value.oneCell']) rfl (Nat.le_of_ble_eq_true rfl) rfl ?_)
            refine T_nil ?_
            refine N_then ?_
            refine C_seq ?_
            refine C_region rfl ?_
            refine T_pv rfl (pv_fieldAddr rfl fl_53_4) ?_
            refine T_pv rfl (pv_load rfl ag30 (Cell.blk 113 rfl rfl)) ?_
            have zf : _ ≤ 2000 := zz.2.at_ (i := v) (by omega) (by omega)
            refine T_newNil 114 3 1 ?_
            obtain ⟨news_115, hs_116⟩ := RdA.src (h_106.mono (ImLe.trans (ImLe.trans (ImLe.trans (ImLe.trans hle_8 hle_28) hle_57) hle_86) hle_89))
            refine T_cons (op_appendR0 (lt_of rfl) 114 (RowOk.any (S' := (T4.minus S)) (fun _ _ _ _ h => h) (RowOk.nil (kInt .i64) T4)) (Src.any (fun _ _ _ _ h => h) (hs_116 _ _ (ImLe.refl _))) rfl rfl el30 sz3 zr3 rfl (by decide) bt3 rfl rfl (by first | omega | (simp only [List.length_append, List.length_cons, List.length_nil, List.length_take]; omega)) (by first | omega | (simp only [List.length_append, List.length_cons, List.length_nil, List.length_take]; omega)) fun A_111 c_112 cells_113 hro_114 => ?_)
            refine T_pv rfl (pv_fieldAddr rfl fl_53_4) ?_
            refine T_cons (op_store_any (vs := [.slice A_111 ((((c.tns.getD (u).toNat default).getD (v).toNat default).coefs).length) c_112]) (cs' := [.int .i64 (((c.tns.getD (u).toNat default).getD (v).toNat default).len), .int .i64 (((c.tns.getD (u).toNat default).getD (v).toNat default).order), .bool (((c.tns.getD (u).toNat default).getD (v).toNat default).down), .bool (((c.tns.getD (u).toNat default).getD (v).toNat default).fine), .slice A_111 ((((c.tns.getD (u).toNat default).getD (v).toNat default).coefs).length) c_112]) 113 rfl rfl rfl sz30 (by simp [Value.oneCell']) rfl (Nat.le_of_ble_eq_true rfl) rfl ?_)
            refine T_nil ?_
            refine N_then ?_
            refine C_region rfl ?_
            refine T_pv rfl (pv_move rfl) ?_
            refine T_pv rfl (pv_load_agg (cs := [.int .i64 (((c.tns.getD (u).toNat default).getD (v).toNat default).len), .int .i64 (((c.tns.getD (u).toNat default).getD (v).toNat default).order), .bool (((c.tns.getD (u).toNat default).getD (v).toNat default).down), .bool (((c.tns.getD (u).toNat default).getD (v).toNat default).fine), .slice A_111 ((((c.tns.getD (u).toNat default).getD (v).toNat default).coefs).length) c_112]) rfl ag53 sz53 rfl ⟨Cell.blk 113 rfl rfl, Cell.blk 113 rfl rfl, Cell.blk 113 rfl rfl, Cell.blk 113 rfl rfl, Cell.blk 113 rfl rfl, trivial⟩) ?_
            refine T_freezeRow 114 rfl (fun S_117 hle_118 hz_119 => ?_)
            have hf_121 : RdA (kInt .i64) (S_117.minus S) A_111 c_112 (((c.tns.getD (u).toNat default).getD (v).toNat default).coefs) := (hz_119 _ (ImLe.trans (ImLe.trans (ImLe.trans (ImLe.trans hle_8 hle_28) hle_57) hle_86) hle_89) (kInt .i64) _ rfl hro_114.len ((hro_114.mono (Im.minus_mono hle_118)).rd))
            refine T_cons (op_buildSlice1 (cs := [.int .i64 (((c.tns.getD (u).toNat default).getD (v).toNat default).len), .int .i64 (((c.tns.getD (u).toNat default).getD (v).toNat default).order), .bool (((c.tns.getD (u).toNat default).getD (v).toNat default).down), .bool (((c.tns.getD (u).toNat default).getD (v).toNat default).fine), .slice A_111 ((((c.tns.getD (u).toNat default).getD (v).toNat default).coefs).length) c_112]) (lt_of rfl) 115 rfl rfl el51 sz53 zr53 (by decide) (by decide) rfl fun g_122 => ?_)
            refine T_cons (op_appendR (lt_of rfl) 112 (w2.mono (Im.minus_mono hle_118)) (RowOk.src (RowOk.lit1 (d := kGFilter) (S := (S_117.minus S)) (x := (⟨((c.tns.getD (u).toNat default).getD (v).toNat default).len, ((c.tns.getD (u).toNat default).getD (v).toNat default).order, ((c.tns.getD (u).toNat default).getD (v).toNat default).down, ((c.tns.getD (u).toNat default).getD (v).toNat default).fine, (((c.tns.getD (u).toNat default).getD (v).toNat default).coefs)⟩ : GFilter)) g_122 ⟨_, _, rfl, h_104, h_105, hf_121⟩) 115 rfl) rfl rfl el51 sz53 zr53 rfl (by decide) bt53 rfl rfl (by first | omega | (simp only [List.length_append, List.length_cons, List.length_nil, List.length_take]; omega)) (by first | omega | (simp only [List.length_append, List.length_cons, List.length_nil, List.length_take]; omega)) fun A_123 c_124 cells_125 hro_126 => ?_)
            refine T_pv rfl (pv_assign rfl) ?_
            refine T_nil ?_
            refine N_block ?_
            refine N_then ?_
            refine C_region rfl ?_
            refine T_pv rfl (pv_move rfl) ?_
            have hr_127 : InR .i64 (v + 1) := inR_i64 (by omega) (by omega)
            refine T_pv rfl (pv_add rfl rfl hr_127) ?_
            refine T_pv rfl (pv_assign rfl) ?_
            refine T_nil ?_
            rw [take_snoc (xs := (c.tns.getD (u).toNat default)) (by omega) (by omega)] at hro_126 ⊢
            refine N_next ((v + 1, S_117, A_123, c_124, cells_125)) ⟨(ImLe.trans hle_89 hle_118), ⟨by omega, by omega, hro_126⟩⟩ (by first | omega | (dsimp only; omega)) rfl ⟨rfl, rfl, rfl, rfl, rfl, rfl, rfl, rfl, trivial⟩ ⟨rfl, rfl, rfl, rfl, rfl, rfl, rfl, rfl, rfl, rfl, rfl, rfl, rfl, rfl, rfl, rfl, rfl, rfl, rfl, rfl, rfl, rfl, rfl, rfl, rfl, rfl, rfl, rfl, rfl, rfl, rfl, rfl, rfl, rfl, rfl, rfl, trivial⟩
          · -- decide (v < ((c.tns.getD (u).toNat default).length : Int)) = false
            have hx_128 := of_decide_eq_false hb_97
            refine C_exit ?_
            refine X_then ?_
            refine X_loop ?_
            refine X_block ?_
            refine N_then ?_
            refine C_region rfl ?_
            rw [take_all (xs := (c.tns.getD (u).toNat default)) (i := v) (by omega)] at w2 ⊢
            refine T_pv rfl (pv_fieldAddr rfl fl_37_4) ?_
            refine T_pv rfl (pv_load rfl ag35 (Cell.blk 103 rfl rfl)) ?_
            refine T_pv rfl (pv_move rfl) ?_
            refine T_freezeRow 112 rfl (fun S_129 hle_130 hz_131 => ?_)
            have hf_133 : RdA kGFilter (S_129.minus S) Av cv (c.tns.getD (u).toNat default) := (hz_131 _ (ImLe.trans (ImLe.trans (ImLe.trans (ImLe.trans hle_8 hle_28) hle_57) hle_86) hle_89) kGFilter _ rfl w2.len ((w2.mono (Im.minus_mono hle_130)).rd))
            refine T_cons (op_buildSlice1 (cs := [.slice Av ((c.tns.getD (u).toNat default).length) cv]) (lt_of rfl) 116 rfl rfl el35 sz51 zr51 (by decide) (by decide) rfl fun g_134 => ?_)
            refine T_cons (op_appendR (lt_of rfl) 111 (t2.mono (Im.minus_mono (ImLe.trans hle_89 hle_130))) (RowOk.src (RowOk.lit1 (d := (kSl kGFilter)) (S := (S_129.minus S)) (x := (c.tns.getD (u).toNat default)) g_134 ⟨_, _, rfl, hf_133⟩) 116 rfl) rfl rfl el35 sz51 zr51 rfl (by decide) bt51 rfl rfl (by first | omega | (simp only [List.length_append, List.length_cons, List.length_nil, List.length_take]; omega)) (by first | omega | (simp only [List.length_append, List.length_cons, List.length_nil, List.length_take]; omega)) fun A_135 c_136 cells_137 hro_138 => ?_)
            refine T_pv rfl (pv_fieldAddr rfl fl_37_4) ?_
            refine T_cons (op_store_any (vs := [.slice A_135 (((c.tns.take (u).toNat) ++ [(c.tns.getD (u).toNat default)]).length) c_136]) (cs' := [.int .i64 c.gain, .int .u8 c.info.seq, .int .u8 c.info.shape, .int .i64 c.info.max, .slice A_11 c.info.groups.length c_12, .slice Ai ((c.sections.take (i).toNat).length) ci, .slice Ak ((c.steps.take (k).toNat).length) ck, .slice A_135 (((c.tns.take (u).toNat) ++ [(c.tns.getD (u).toNat default)]).length) c_136, .slice A_22 c.lines.length c_23]) 103 rfl rfl rfl sz35 (by simp [Value.oneCell']) rfl (Nat.le_of_ble_eq_true rfl) rfl ?_)
            refine T_nil ?_
            refine N_block ?_
            refine N_then ?_
            refine C_region rfl ?_
            refine T_pv rfl (pv_move rfl) ?_
            have hr_139 : InR .i64 (u + 1) := inR_i64 (by omega) (by omega)
            refine T_pv rfl (pv_add rfl rfl hr_139) ?_
            refine T_pv rfl (pv_assign rfl) ?_
            refine T_nil ?_
            rw [take_snoc (xs := c.tns) (by omega) (by omega)] at hro_138 ⊢
            refine N_next ((u + 1, S_129, A_135, c_136, cells_137)) ⟨(ImLe.trans (ImLe.trans hle_86 hle_89) hle_130), ⟨by omega, by omega, hro_138⟩⟩ (by first | omega | (dsimp only; omega)) rfl ⟨rfl, rfl, rfl, rfl, rfl, rfl, rfl, trivial⟩ ⟨rfl, rfl, rfl, rfl, rfl, rfl, rfl, rfl, rfl, rfl, rfl, rfl, rfl, rfl, rfl, rfl, rfl, rfl, rfl, rfl, rfl, rfl, rfl, rfl, rfl, rfl, rfl, rfl, rfl, trivial⟩
        · -- decide (u < (c.tns.length : Int)) = false
          have hx_140 := of_decide_eq_false hb_87
          refine C_exit ?_
          refine X_then ?_
          refine X_loop ?_
          refine X_block ?_
          refine N_then ?_
          refine C_seq ?_
          refine C_region rfl ?_
          refine T_pv rfl (pv_load_agg (cs := [.int .i64 c.gain, .int .u8 c.info.seq, .int .u8 c.info.shape, .int .i64 c.info.max, .slice A_11 c.info.groups.length c_12, .slice Ai ((c.sections.take (i).toNat).length) ci, .slice Ak ((c.steps.take (k).toNat).length) ck, .slice Au ((c.tns.take (u).toNat).length) cu, .slice A_22 c.lines.length c_23]) rfl ag37 sz37 rfl ⟨Cell.blk 103 rfl rfl, Cell.blk 103 rfl rfl, Cell.blk 103 rfl rfl, Cell.blk 103 rfl rfl, Cell.blk 103 rfl rfl, Cell.blk 103 rfl rfl, Cell.blk 103 rfl rfl, Cell.blk 103 rfl rfl, Cell.blk 103 rfl rfl, trivial⟩) ?_
          refine T_cons (op_store_any (vs := [.int .i64 c.gain, .int .u8 c.info.seq, .int .u8 c.info.shape, .int .i64 c.info.max, .slice A_11 c.info.groups.length c_12, .slice Ai ((c.sections.take (i).toNat).length) ci, .slice Ak ((c.steps.take (k).toNat).length) ck, .slice Au ((c.tns.take (u).toNat).length) cu, .slice A_22 c.lines.length c_23]) (cs' := [.int .i64 c.gain, .int .u8 c.info.seq, .int .u8 c.info.shape, .int .i64 c.info.max, .slice A_11 c.info.groups.length c_12, .slice Ai ((c.sections.take (i).toNat).length) ci, .slice Ak ((c.steps.take (k).toNat).length) ck, .slice Au ((c.tns.take (u).toNat).length) cu, .slice A_22 c.lines.length c_23]) 102 rfl rfl rfl sz37 (by simp [Value.oneCell']) rfl (Nat.le_of_ble_eq_true rfl) rfl ?_)
          refine T_nil ?_
          refine N_then ?_
          refine C_ret0 ?_
          -- ret 0: .agg #[.int .i64 c.gain, .int .u8 c.info.seq, .int .u8 c.info.shape, .int .i64 c.info.max, .slice A_11 c.info.groups.length c_12, .slice Ai ((c.sections.take (i).toNat).length) ci, .slice Ak ((c.steps.take (k).toNat).length) ck, .slice Au ((c.tns.take (u).toNat).length) cu, .slice A_22 c.lines.length c_23]
          refine G_freeze 105 rfl (fun S_141 hle_142 hz_143 => ?_)
          have hf_145 : RdA (kSl kGSection) (S_141.minus S) Ai ci (c.sections.take (i).toNat) := (hz_143 _ (ImLe.trans (ImLe.trans (ImLe.trans hle_8 hle_28) hle_57) hle_86) (kSl kGSection) _ rfl q2.len (((q2.mono (Im.minus_mono (ImLe.trans hle_57 hle_86))).mono (Im.minus_mono hle_142)).rd))
          refine G_freeze 108 rfl (fun S_146 hle_147 hz_148 => ?_)
          have hf_150 : RdA (kSl (kInt .i64)) (S_146.minus S) Ak ck (c.steps.take (k).toNat) := (hz_148 _ (ImLe.trans (ImLe.trans (ImLe.trans (ImLe.trans hle_8 hle_28) hle_57) hle_86) hle_142) (kSl (kInt .i64)) _ rfl s2.len (((s2.mono (Im.minus_mono (ImLe.trans hle_86 hle_142))).mono (Im.minus_mono hle_147)).rd))
          refine G_freeze 111 rfl (fun S_151 hle_152 hz_153 => ?_)
          have hf_155 : RdA (kSl kGFilter) (S_151.minus S) Au cu (c.tns.take (u).toNat) := (hz_153 _ (ImLe.trans (ImLe.trans (ImLe.trans (ImLe.trans (ImLe.trans hle_8 hle_28) hle_57) hle_86) hle_142) hle_147) (kSl kGFilter) _ rfl t2.len (((t2.mono (Im.minus_mono (ImLe.trans hle_142 hle_147))).mono (Im.minus_mono hle_152)).rd))
          refine G_freeze 104 rfl (fun S_156 hle_157 hz_158 => ?_)
          have hf_160 : RdA (kInt .i64) (S_156.minus S) A_22 c_23 c.lines := (hz_158 _ (ImLe.trans (ImLe.trans (ImLe.trans (ImLe.trans (ImLe.trans (ImLe.trans hle_8 hle_28) hle_57) hle_86) hle_142) hle_147) hle_152) (kInt .i64) _ rfl hro_25.len (((hro_25.mono (Im.minus_mono (ImLe.trans (ImLe.trans (ImLe.trans (ImLe.trans (ImLe.trans hle_28 hle_57) hle_86) hle_142) hle_147) hle_152))).mono (Im.minus_mono hle_157)).rd))
          refine Q_ret (vs := [.agg #[.int .i64 c.gain, .int .u8 c.info.seq, .int .u8 c.info.shape, .int .i64 c.info.max, .slice A_11 c.info.groups.length c_12, .slice Ai ((c.sections.take (i).toNat).length) ci, .slice Ak ((c.steps.take (k).toNat).length) ck, .slice Au ((c.tns.take (u).toNat).length) cu, .slice A_22 c.lines.length c_23]]) ⟨⟨_, rfl, .inr ⟨[.int .i64 c.gain, .int .u8 c.info.seq, .int .u8 c.info.shape, .int .i64 c.info.max, .slice A_11 c.info.groups.length c_12, .slice Ai ((c.sections.take (i).toNat).length) ci, .slice Ak ((c.steps.take (k).toNat).length) ck, .slice Au ((c.tns.take (u).toNat).length) cu, .slice A_22 c.lines.length c_23], rfl, ag37, sz37, ⟨Cell.blk 102 rfl rfl, Cell.blk 102 rfl rfl, Cell.blk 102 rfl rfl, Cell.blk 102 rfl rfl, Cell.blk 102 rfl rfl, Cell.blk 102 rfl rfl, Cell.blk 102 rfl rfl, Cell.blk 102 rfl rfl, Cell.blk 102 rfl rfl, trivial⟩, rfl⟩⟩, trivial⟩ (L' := []) [] trivial (by simp) (by decide) (⟨_, (⟨c.gain, c.info, (c.sections.take (i).toNat), (c.steps.take (k).toNat), (c.tns.take (u).toNat), c.lines⟩ : GChan), rfl, rfl, ?_, ⟨_, _, _, _, _, _, _, _, _, _, rfl, hc0, h_13, h_14, h_15, (h_16.mono (Im.minus_mono (ImLe.trans (ImLe.trans (ImLe.trans (ImLe.trans (ImLe.trans (ImLe.trans hle_28 hle_57) hle_86) hle_142) hle_147) hle_152) hle_157))), (hf_145.mono (Im.minus_mono (ImLe.trans (ImLe.trans hle_147 hle_152) hle_157))), (hf_150.mono (Im.minus_mono (ImLe.trans hle_152 hle_157))), (hf_155.mono (Im.minus_mono hle_157)), hf_160⟩⟩)
          · rw [GChan.eq_iff]; exact ⟨rfl, rfl, (take_all (by omega)).symm, (take_all (by omega)).symm, (take_all (by omega)).symm, rfl⟩
  · -- number 6
    refine AS_op rfl (op_alloc (cs := [.int .i64 0, .int .u8 0, .int .u8 0, .int .i64 0, .slice none 0 0, .slice none 0 0, .slice none 0 0, .slice none 0 0, .slice none 0 0]) (lt_of rfl) 117 zr37 rfl fun g_161 => ?_)
    refine ⟨fun _ => (held_le ⟨rfl, rfl, trivial⟩ (ImLe.refl _) h0_3), ?_⟩
    refine A_one (i := 4) (by kernel_rfl) ?_
    refine AS_op rfl (op_call (fun _ h => by cases h; exact lt_of rfl) rfl rfl rfl en41 (f_r10_Twin _ c.info hc1 hc2 hc3 _ _ hc4 (by omega)) [] trivial (by simp) (by decide) ?_)
    rintro v_167 S_165 L_168 ⟨us_162, r_163, rfl, rfl, rfl, h_164⟩ hle_166
    obtain ⟨A_169, c_170, rfl, h_171, h_172, h_173, h_174⟩ := h_164
    have hq_175 := InR.u8 h_171
    have hq_176 := InR.u8 h_172
    have hq_177 := InR.i64 h_173
    have hb_178 := h_174.bd
    refine ⟨rfl, ?_⟩
    refine ⟨fun _ => (held_le ⟨rfl, rfl, trivial⟩ hle_166 h0_3), ?_⟩
    refine A_take (i := 5) rfl (by kernel_rfl) (held_le ⟨rfl, rfl, trivial⟩ hle_166 h0_3) rfl (pv_buildL (cs := [.int .i64 c.gain, .int .u8 c.info.seq, .int .u8 c.info.shape, .int .i64 c.info.max, .slice A_169 c.info.groups.length c_170, .slice none 0 0, .slice none 0 0, .slice none 0 0, .slice none 0 0]) rfl zr37 pl37 rfl) ?_
    refine A_one (i := 7) (by kernel_rfl) ?_
    refine AS_op rfl (op_store_any (vs := [.int .i64 c.gain, .int .u8 c.info.seq, .int .u8 c.info.shape, .int .i64 c.info.max, .slice A_169 c.info.groups.length c_170, .slice none 0 0, .slice none 0 0, .slice none 0 0, .slice none 0 0]) (cs' := [.int .i64 c.gain, .int .u8 c.info.seq, .int .u8 c.info.shape, .int .i64 c.info.max, .slice A_169 c.info.groups.length c_170, .slice none 0 0, .slice none 0 0, .slice none 0 0, .slice none 0 0]) 117 rfl rfl rfl sz37 (by simp [Value.oneCell']) rfl (Nat.le_of_ble_eq_true rfl) rfl ?_)
    refine ⟨(fun h => by cases h), ?_⟩
    refine A_done (by kernel_rfl) ?_
    refine N_then ?_
    refine C_seq ?_
    refine C_region rfl ?_
    refine T_pv rfl (pv_fieldAddr rfl fl_37_5) ?_
    refine T_pv rfl (pv_load rfl ag30 (Cell.blk 117 rfl rfl)) ?_
    refine T_pv rfl (pv_fieldAddr rfl fl_37_5) ?_
    refine T_pv rfl (pv_load rfl ag30 (Cell.blk 101 rfl rfl)) ?_
    refine T_newNil 118 3 1 ?_
    obtain ⟨news_183, hs_184⟩ := RdA.src (hc8.mono hle_166)
    refine T_cons (op_appendR0 (lt_of rfl) 118 (RowOk.any (S' := (S_165.minus S)) (fun _ _ _ _ h => h) (RowOk.nil (kInt .i64) S_165)) (Src.any (fun _ _ _ _ h => h) (hs_184 _ _ (ImLe.refl _))) rfl rfl el30 sz3 zr3 rfl (by decide) bt3 rfl rfl (by first | omega | (simp only [List.length_append, List.length_cons, List.length_nil, List.length_take]; omega)) (by first | omega | (simp only [List.length_append, List.length_cons, List.length_nil, List.length_take]; omega)) fun A_179 c_180 cells_181 hro_182 => ?_)
    refine T_pv rfl (pv_fieldAddr rfl fl_37_5) ?_
    refine T_cons (op_store_any (vs := [.slice A_179 c.lines.length c_180]) (cs' := [.int .i64 c.gain, .int .u8 c.info.seq, .int .u8 c.info.shape, .int .i64 c.info.max, .slice A_169 c.info.groups.length c_170, .slice none 0 0, .slice none 0 0, .slice none 0 0, .slice A_179 c.lines.length c_180]) 117 rfl rfl rfl sz30 (by simp [Value.oneCell']) rfl (Nat.le_of_ble_eq_true rfl) rfl ?_)
    refine T_nil ?_
    refine N_then ?_
    refine C_seq ?_
    refine C_seq ?_
    refine C_region rfl ?_
    refine T_pv rfl (pv_assign rfl) ?_
    refine T_nil ?_
    refine N_then ?_
    refine C_block ?_
    refine C_newNil 119 50 1 ?_
    refine C_loop (fun (x : Int × Im × (Option Addr) × Nat × (List Value)) => (x.2.1, [(101, .blk g_1 [.int .i64 c.gain, .int .u8 c.info.seq, .int .u8 c.info.shape, .int .i64 c.info.max, .slice Ac4 c.info.groups.length cc4, .slice Ac5 c.sections.length cc5, .slice Ac6 c.steps.length cc6, .slice Ac7 c.tns.length cc7, .slice Ac8 c.lines.length cc8] 37), (102, .blk g_2 [.int .i64 0, .int .u8 0, .int .u8 0, .int .i64 0, .slice none 0 0, .slice none 0 0, .slice none 0 0, .slice none 0 0, .slice none 0 0] 37), (117, .blk g_161 [.int .i64 c.gain, .int .u8 c.info.seq, .int .u8 c.info.shape, .int .i64 c.info.max, .slice A_169 c.info.groups.length c_170, .slice x.2.2.1 ((c.sections.take (x.1).toNat).length) x.2.2.2.1, .slice none 0 0, .slice none 0 0, .slice A_179 c.lines.length c_180] 37), (118, .row (.slice A_179 c.lines.length c_180) 3 1 c.lines.length cells_181), (119, .row (.slice x.2.2.1 ((c.sections.take (x.1).toNat).length) x.2.2.2.1) 50 1 ((c.sections.take (x.1).toNat).length) x.2.2.2.2)], [(0, .agg #[.int .i64 c.gain, .int .u8 c.info.seq, .int .u8 c.info.shape, .int .i64 c.info.max, .slice Ac4 c.info.groups.length cc4, .slice Ac5 c.sections.length cc5, .slice Ac6 c.steps.length cc6, .slice Ac7 c.tns.length cc7, .slice Ac8 c.lines.length cc8]), (1, .pointer (some ⟨g_1, 0, none⟩)), (2, .pointer (some ⟨g_2, 0, none⟩)), (10, .pointer (some ⟨g_1, 0, none⟩)), (11, .int .i64 c.gain), (12, .pointer (some ⟨g_1, 1, none⟩)), (13, .agg #[.int .u8 c.info.seq, .int .u8 c.info.shape, .int .i64 c.info.max, .slice Ac4 c.info.groups.length cc4]), (3, .pointer (some ⟨g_161, 0, none⟩)), (14, .agg #[.int .u8 c.info.seq, .int .u8 c.info.shape, .int .i64 c.info.max, .slice A_169 c.info.groups.length c_170]), (15, .agg #[.int .i64 c.gain, .int .u8 c.info.seq, .int .u8 c.info.shape, .int .i64 c.info.max, .slice A_169 c.info.groups.length c_170, .slice none 0 0, .slice none 0 0, .slice none 0 0, .slice none 0 0]), (16, .pointer (some ⟨g_161, 8, none⟩)), (17, .slice none 0 0), (18, .pointer (some ⟨g_1, 8, none⟩)), (19, .slice Ac8 c.lines.length cc8), (20, .slice A_179 c.lines.length c_180), (21, .pointer (some ⟨g_161, 8, none⟩)), (4, .int .i64 x.1)])) (fun (x : Int × Im × (Option Addr) × Nat × (List Value)) => ImLe S_165 x.2.1 ∧ 0 ≤ x.1 ∧ x.1 ≤ c.sections.length ∧ RowOk (kSl kGSection) (x.2.1.minus S) x.2.2.1 x.2.2.2.1 x.2.2.2.2 (c.sections.take (x.1).toNat)) (fun (x : Int × Im × (Option Addr) × Nat × (List Value)) => (c.sections.length - x.1).toNat) ((0, S_165, none, 0, [])) ⟨(ImLe.refl _), ⟨by omega, by omega, RowOk.nil _ _⟩⟩ rfl ⟨rfl, rfl, rfl, rfl, rfl, trivial⟩ ⟨rfl, rfl, rfl, rfl, rfl, rfl, rfl, rfl, rfl, rfl, rfl, rfl, rfl, rfl, rfl, rfl, rfl, trivial⟩ ?_
    rintro ⟨i, T1, Ai, ci, ei⟩ ⟨hle_185, ⟨q0, q1, q2⟩⟩
    dsimp only at *
    refine C_seq ?_
    refine C_seq ?_
    refine C_region rfl ?_
    refine T_pv rfl (pv_move rfl) ?_
    refine T_pv rfl (pv_fieldAddr rfl fl_37_2) ?_
    refine T_pv rfl (pv_load rfl ag33 (Cell.blk 101 rfl rfl)) ?_
    refine T_pv rfl (pv_len rfl el33) ?_
    refine T_pv rfl (pv_lss rfl rfl) ?_
    refine T_nil ?_
    refine N_then ?_
    refine C_cond rfl (fun hb_186 => ?_) (fun hb_186 => ?_)
    · -- decide (i < (c.sections.length : Int)) = true
      have hx_187 := of_decide_eq_true hb_186
      refine C_skip ?_
      refine N_then ?_
      refine C_seq ?_
      refine C_block ?_
      refine C_drawS (T1) [(101, .blk g_1 [.int .i64 c.gain, .int .u8 c.info.seq, .int .u8 c.info.shape, .int .i64 c.info.max, .slice Ac4 c.info.groups.length cc4, .slice Ac5 c.sections.length cc5, .slice Ac6 c.steps.length cc6, .slice Ac7 c.tns.length cc7, .slice Ac8 c.lines.length cc8] 37), (102, .blk g_2 [.int .i64 0, .int .u8 0, .int .u8 0, .int .i64 0, .slice none 0 0, .slice none 0 0, .slice none 0 0, .slice none 0 0, .slice none 0 0] 37), (117, .blk g_161 [.int .i64 c.gain, .int .u8 c.info.seq, .int .u8 c.info.shape, .int .i64 c.info.max, .slice A_169 c.info.groups.length c_170, .slice Ai ((c.sections.take (i).toNat).length) ci, .slice none 0 0, .slice none 0 0, .slice A_179 c.lines.length c_180] 37)] 10 (by kernel_rfl) rfl (fun h0_188 => ?_)
      refine A_take (i := 0) rfl (by kernel_rfl) (held_le ⟨rfl, rfl, rfl, trivial⟩ (ImLe.refl _) h0_188) rfl (pv_fieldAddr rfl fl_37_2) ?_
      refine A_take (i := 1) rfl (by kernel_rfl) (held_le ⟨rfl, rfl, rfl, trivial⟩ (ImLe.refl _) h0_188) rfl (pv_load rfl ag33 (Cell.blk 117 rfl rfl)) ?_
      refine A_take (i := 2) rfl (by kernel_rfl) (held_le ⟨rfl, rfl, rfl, trivial⟩ (ImLe.refl _) h0_188) rfl (pv_fieldAddr rfl fl_37_2) ?_
      refine A_take (i := 3) rfl (by kernel_rfl) (held_le ⟨rfl, rfl, rfl, trivial⟩ (ImLe.refl _) h0_188) rfl (pv_load rfl ag33 (Cell.blk 101 rfl rfl)) ?_
      refine A_take (i := 4) rfl (by kernel_rfl) (held_le ⟨rfl, rfl, rfl, trivial⟩ (ImLe.refl _) h0_188) rfl (pv_move rfl) ?_
      obtain ⟨us_189, hk_190, he_191⟩ := RdA.elt hc5 (i := i) (by omega) (by omega)
      obtain ⟨A_192, c_193, rfl, h_194⟩ := hk_190
      have hb_195 := h_194.bd
      refine A_take (i := 5) rfl (by kernel_rfl) (held_le ⟨rfl, rfl, rfl, trivial⟩ (ImLe.refl _) h0_188) rfl (pv_idx hc5 rfl rfl el33 sz50 (by omega) (by omega)) ?_
      refine A_take (i := 6) rfl (by kernel_rfl) (held_le ⟨rfl, rfl, rfl, trivial⟩ (ImLe.refl _) h0_188) rfl (pv_load rfl ag50 ((he_191 _ _ (ImLe.trans hle_166 hle_185)).zero rfl)) ?_
      refine A_newNil 120 57 2 ?_
      refine A_one (i := 7) (by kernel_rfl) ?_
      have zz : _ ≤ 2000 := z3.at_ (i := i) (by omega) (by omega)
      obtain ⟨news_200, hs_201⟩ := RdA.src (h_194.mono (ImLe.trans hle_166 hle_185))
      refine AS_op rfl (op_appendR0 (lt_of rfl) 120 (RowOk.any (S' := (T1.minus S)) (fun _ _ _ _ h => h) (RowOk.nil kGSection T1)) (Src.any (fun _ _ _ _ h => h) (hs_201 _ _ (ImLe.refl _))) rfl rfl el50 sz57 zr57 rfl (by decide) bt57 rfl rfl (by first | omega | (simp only [List.length_append, List.length_cons, List.length_nil, List.length_take]; omega)) (by first | omega | (simp only [List.length_append, List.length_cons, List.length_nil, List.length_take]; omega)) fun A_196 c_197 cells_198 hro_199 => ?_)
      refine ⟨fun _ => (held_le ⟨rfl, rfl, rfl, trivial⟩ (ImLe.refl _) h0_188), ?_⟩
      refine A_freezeRow 120 rfl (fun S_202 hle_203 hz_204 => ?_)
      have hf_206 : RdA kGSection (S_202.minus S) A_196 c_197 (c.sections.getD (i).toNat default) := (hz_204 _ (ImLe.trans hle_166 hle_185) kGSection _ rfl hro_199.len ((hro_199.mono (Im.minus_mono hle_203)).rd))
      refine A_one (i := 8) (by kernel_rfl) ?_
      refine AS_op rfl (op_buildSlice1 (cs := [.slice A_196 ((c.sections.getD (i).toNat default).length) c_197]) (lt_of rfl) 121 rfl rfl el33 sz50 zr50 (by decide) (by decide) rfl fun g_207 => ?_)
      refine ⟨fun _ => (held_le ⟨rfl, rfl, rfl, trivial⟩ hle_203 h0_188), ?_⟩
      refine A_one (i := 9) (by kernel_rfl) ?_
      refine AS_op rfl (op_appendR (lt_of rfl) 119 (q2.mono (Im.minus_mono hle_203)) (RowOk.src (RowOk.lit1 (d := (kSl kGSection)) (S := (S_202.minus S)) (x := (c.sections.getD (i).toNat default)) g_207 ⟨_, _, rfl, hf_206⟩) 121 rfl) rfl rfl el33 sz50 zr50 rfl (by decide) bt50 rfl rfl (by first | omega | (simp only [List.length_append, List.length_cons, List.length_nil, List.length_take]; omega)) (by first | omega | (simp only [List.length_append, List.length_cons, List.length_nil, List.length_take]; omega)) fun A_208 c_209 cells_210 hro_211 => ?_)
      refine ⟨fun _ => (held_le ⟨rfl, rfl, rfl, trivial⟩ hle_203 h0_188), ?_⟩
      refine A_one (i := 10) (by kernel_rfl) ?_
      refine AS_op rfl (op_pv (lt_of rfl) (pv_fieldAddr rfl fl_37_2) ⟨(fun h => by cases h), ?_⟩)
      refine A_one (i := 11) (by kernel_rfl) ?_
      refine AS_op rfl (op_store_any (vs := [.slice A_208 (((c.sections.take (i).toNat) ++ [(c.sections.getD (i).toNat default)]).length) c_209]) (cs' := [.int .i64 c.gain, .int .u8 c.info.seq, .int .u8 c.info.shape, .int .i64 c.info.max, .slice A_169 c.info.groups.length c_170, .slice A_208 (((c.sections.take (i).toNat) ++ [(c.sections.getD (i).toNat default)]).length) c_209, .slice none 0 0, .slice none 0 0, .slice A_179 c.lines.length c_180]) 117 rfl rfl rfl sz33 (by simp [Value.oneCell']) rfl (Nat.le_of_ble_eq_true rfl) rfl ?_)
      refine ⟨(fun h => by cases h), ?_⟩
      refine A_done (by kernel_rfl) ?_
      refine N_block ?_
      refine N_then ?_
      refine C_region rfl ?_
      refine T_pv rfl (pv_move rfl) ?_
      have hr_212 : InR .i64 (i + 1) := inR_i64 (by omega) (by omega)
      refine T_pv rfl (pv_add rfl rfl hr_212) ?_
      refine T_pv rfl (pv_assign rfl) ?_
      refine T_nil ?_
      rw [take_snoc (xs := c.sections) (by omega) (by omega)] at hro_211 ⊢
      refine N_next ((i + 1, S_202, A_208, c_209, cells_210)) ⟨(ImLe.trans hle_185 hle_203), ⟨by omega, by omega, hro_211⟩⟩ (by first | omega | (dsimp only; omega)) rfl ⟨rfl, rfl, rfl, rfl, rfl, trivial⟩ ⟨rfl, rfl, rfl, rfl, rfl, rfl, rfl, rfl, rfl, rfl, rfl, rfl, rfl, rfl, rfl, rfl, rfl, trivial⟩
    · -- decide (i < (c.sections.length : Int)) = false
      have hx_213 := of_decide_eq_false hb_186
      refine C_exit ?_
      refine X_then ?_
      refine X_loop ?_
      refine X_block ?_
      refine N_then ?_
      refine C_seq ?_
      refine C_seq ?_
      refine C_region rfl ?_
      refine T_pv rfl (pv_assign rfl) ?_
      refine T_nil ?_
      refine N_then ?_
      refine C_block ?_
      refine C_newNil 122 30 1 ?_
      refine C_loop (fun (x : Int × Im × (Option Addr) × Nat × (List Value)) => (x.2.1, [(101, .blk g_1 [.int .i64 c.gain, .int .u8 c.info.seq, .int .u8 c.info.shape, .int .i64 c.info.max, .slice Ac4 c.info.groups.length cc4, .slice Ac5 c.sections.length cc5, .slice Ac6 c.steps.length cc6, .slice Ac7 c.tns.length cc7, .slice Ac8 c.lines.length cc8] 37), (102, .blk g_2 [.int .i64 0, .int .u8 0, .int .u8 0, .int .i64 0, .slice none 0 0, .slice none 0 0, .slice none 0 0, .slice none 0 0, .slice none 0 0] 37), (117, .blk g_161 [.int .i64 c.gain, .int .u8 c.info.seq, .int .u8 c.info.shape, .int .i64 c.info.max, .slice A_169 c.info.groups.length c_170, .slice Ai ((c.sections.take (i).toNat).length) ci, .slice x.2.2.1 ((c.steps.take (x.1).toNat).length) x.2.2.2.1, .slice none 0 0, .slice A_179 c.lines.length c_180] 37), (118, .row (.slice A_179 c.lines.length c_180) 3 1 c.lines.length cells_181), (119, .row (.slice Ai ((c.sections.take (i).toNat).length) ci) 50 1 ((c.sections.take (i).toNat).length) ei), (122, .row (.slice x.2.2.1 ((c.steps.take (x.1).toNat).length) x.2.2.2.1) 30 1 ((c.steps.take (x.1).toNat).length) x.2.2.2.2)], [(0, .agg #[.int .i64 c.gain, .int .u8 c.info.seq, .int .u8 c.info.shape, .int .i64 c.info.max, .slice Ac4 c.info.groups.length cc4, .slice Ac5 c.sections.length cc5, .slice Ac6 c.steps.length cc6, .slice Ac7 c.tns.length cc7, .slice Ac8 c.lines.length cc8]), (1, .pointer (some ⟨g_1, 0, none⟩)), (2, .pointer (some ⟨g_2, 0, none⟩)), (10, .pointer (some ⟨g_1, 0, none⟩)), (11, .int .i64 c.gain), (12, .pointer (some ⟨g_1, 1, none⟩)), (13, .agg #[.int .u8 c.info.seq, .int .u8 c.info.shape, .int .i64 c.info.max, .slice Ac4 c.info.groups.length cc4]), (3, .pointer (some ⟨g_161, 0, none⟩)), (14, .agg #[.int .u8 c.info.seq, .int .u8 c.info.shape, .int .i64 c.info.max, .slice A_169 c.info.groups.length c_170]), (15, .agg #[.int .i64 c.gain, .int .u8 c.info.seq, .int .u8 c.info.shape, .int .i64 c.info.max, .slice A_169 c.info.groups.length c_170, .slice none 0 0, .slice none 0 0, .slice none 0 0, .slice none 0 0]), (16, .pointer (some ⟨g_161, 8, none⟩)), (17, .slice none 0 0), (18, .pointer (some ⟨g_1, 8, none⟩)), (19, .slice Ac8 c.lines.length cc8), (20, .slice A_179 c.lines.length c_180), (21, .pointer (some ⟨g_161, 8, none⟩)), (4, .int .i64 i), (22, .int .i64 i), (23, .pointer (some ⟨g_1, 5, none⟩)), (24, .slice Ac5 c.sections.length cc5), (25, .int .i64 (c.sections.length : Int)), (26, .bool (decide (i < (c.sections.length : Int)))), (5, .int .i64 x.1)])) (fun (x : Int × Im × (Option Addr) × Nat × (List Value)) => ImLe T1 x.2.1 ∧ 0 ≤ x.1 ∧ x.1 ≤ c.steps.length ∧ RowOk (kSl (kInt .i64)) (x.2.1.minus S) x.2.2.1 x.2.2.2.1 x.2.2.2.2 (c.steps.take (x.1).toNat)) (fun (x : Int × Im × (Option Addr) × Nat × (List Value)) => (c.steps.length - x.1).toNat) ((0, T1, none, 0, [])) ⟨(ImLe.refl _), ⟨by omega, by omega, RowOk.nil _ _⟩⟩ rfl ⟨rfl, rfl, rfl, rfl, rfl, rfl, trivial⟩ ⟨rfl, rfl, rfl, rfl, rfl, rfl, rfl, rfl, rfl, rfl, rfl, rfl, rfl, rfl, rfl, rfl, rfl, rfl, rfl, rfl, rfl, rfl, rfl, trivial⟩ ?_
      rintro ⟨k, T2, Ak, ck, ek⟩ ⟨hle_214, ⟨s0, s1, s2⟩⟩
      dsimp only at *
      refine C_seq ?_
      refine C_seq ?_
      refine C_region rfl ?_
      refine T_pv rfl (pv_move rfl) ?_
      refine T_pv rfl (pv_fieldAddr rfl fl_37_3) ?_
      refine T_pv rfl (pv_load rfl ag34 (Cell.blk 101 rfl rfl)) ?_
      refine T_pv rfl (pv_len rfl el34) ?_
      refine T_pv rfl (pv_lss rfl rfl) ?_
      refine T_nil ?_
      refine N_then ?_
      refine C_cond rfl (fun hb_215 => ?_) (fun hb_215 => ?_)
      · -- decide (k < (c.steps.length : Int)) = true
        have hx_216 := of_decide_eq_true hb_215
        refine C_skip ?_
        refine N_then ?_
        refine C_seq ?_
        refine C_block ?_
        refine C_drawS (T2) [(101, .blk g_1 [.int .i64 c.gain, .int .u8 c.info.seq, .int .u8 c.info.shape, .int .i64 c.info.max, .slice Ac4 c.info.groups.length cc4, .slice Ac5 c.sections.length cc5, .slice Ac6 c.steps.length cc6, .slice Ac7 c.tns.length cc7, .slice Ac8 c.lines.length cc8] 37), (102, .blk g_2 [.int .i64 0, .int .u8 0, .int .u8 0, .int .i64 0, .slice none 0 0, .slice none 0 0, .slice none 0 0, .slice none 0 0, .slice none 0 0] 37), (117, .blk g_161 [.int .i64 c.gain, .int .u8 c.info.seq, .int .u8 c.info.shape, .int .i64 c.info.max, .slice A_169 c.info.groups.length c_170, .slice Ai ((c.sections.take (i).toNat).length) ci, .slice Ak ((c.steps.take (k).toNat).length) ck, .slice none 0 0, .slice A_179 c.lines.length c_180] 37)] 10 (by kernel_rfl) rfl (fun h0_217 => ?_)
        refine A_take (i := 0) rfl (by kernel_rfl) (held_le ⟨rfl, rfl, rfl, trivial⟩ (ImLe.refl _) h0_217) rfl (pv_fieldAddr rfl fl_37_3) ?_
        refine A_take (i := 1) rfl (by kernel_rfl) (held_le ⟨rfl, rfl, rfl, trivial⟩ (ImLe.refl _) h0_217) rfl (pv_load rfl ag34 (Cell.blk 117 rfl rfl)) ?_
        refine A_take (i := 2) rfl (by kernel_rfl) (held_le ⟨rfl, rfl, rfl, trivial⟩ (ImLe.refl _) h0_217) rfl (pv_fieldAddr rfl fl_37_3) ?_
        refine A_take (i := 3) rfl (by kernel_rfl) (held_le ⟨rfl, rfl, rfl, trivial⟩ (ImLe.refl _) h0_217) rfl (pv_load rfl ag34 (Cell.blk 101 rfl rfl)) ?_
        refine A_take (i := 4) rfl (by kernel_rfl) (held_le ⟨rfl, rfl, rfl, trivial⟩ (ImLe.refl _) h0_217) rfl (pv_move rfl) ?_
        obtain ⟨us_218, hk_219, he_220⟩ := RdA.elt hc6 (i := k) (by omega) (by omega)
        obtain ⟨A_221, c_222, rfl, h_223⟩ := hk_219
        have hb_224 := h_223.bd
        refine A_take (i := 5) rfl (by kernel_rfl) (held_le ⟨rfl, rfl, rfl, trivial⟩ (ImLe.refl _) h0_217) rfl (pv_idx hc6 rfl rfl el34 sz30 (by omega) (by omega)) ?_
        refine A_take (i := 6) rfl (by kernel_rfl) (held_le ⟨rfl, rfl, rfl, trivial⟩ (ImLe.refl _) h0_217) rfl (pv_load rfl ag30 ((he_220 _ _ (ImLe.trans (ImLe.trans hle_166 hle_185) hle_214)).zero rfl)) ?_
        refine A_newNil 123 3 1 ?_
        refine A_one (i := 7) (by kernel_rfl) ?_
        have zz : _ ≤ 2000 := z5.at_ (i := k) (by omega) (by omega)
        obtain ⟨news_229, hs_230⟩ := RdA.src (h_223.mono (ImLe.trans (ImLe.trans hle_166 hle_185) hle_214))
        refine AS_op rfl (op_appendR0 (lt_of rfl) 123 (RowOk.any (S' := (T2.minus S)) (fun _ _ _ _ h => h) (RowOk.nil (kInt .i64) T2)) (Src.any (fun _ _ _ _ h => h) (hs_230 _ _ (ImLe.refl _))) rfl rfl el30 sz3 zr3 rfl (by decide) bt3 rfl rfl (by first | omega | (simp only [List.length_append, List.length_cons, List.length_nil, List.length_take]; omega)) (by first | omega | (simp only [List.length_append, List.length_cons, List.length_nil, List.length_take]; omega)) fun A_225 c_226 cells_227 hro_228 => ?_)
        refine ⟨fun _ => (held_le ⟨rfl, rfl, rfl, trivial⟩ (ImLe.refl _) h0_217), ?_⟩
        refine A_freezeRow 123 rfl (fun S_231 hle_232 hz_233 => ?_)
        have hf_235 : RdA (kInt .i64) (S_231.minus S) A_225 c_226 (c.steps.getD (k).toNat default) := (hz_233 _ (ImLe.trans (ImLe.trans hle_166 hle_185) hle_214) (kInt .i64) _ rfl hro_228.len ((hro_228.mono (Im.minus_mono hle_232)).rd))
        refine A_one (i := 8) (by kernel_rfl) ?_
        refine AS_op rfl (op_buildSlice1 (cs := [.slice A_225 ((c.steps.getD (k).toNat default).length) c_226]) (lt_of rfl) 124 rfl rfl el34 sz30 zr30 (by decide) (by decide) rfl fun g_236 => ?_)
        refine ⟨fun _ => (held_le ⟨rfl, rfl, rfl, trivial⟩ hle_232 h0_217), ?_⟩
        refine A_one (i := 9) (by kernel_rfl) ?_
        refine AS_op rfl (op_appendR (lt_of rfl) 122 (s2.mono (Im.minus_mono hle_232)) (RowOk.src (RowOk.lit1 (d := (kSl (kInt .i64))) (S := (S_231.minus S)) (x := (c.steps.getD (k).toNat default)) g_236 ⟨_, _, rfl, hf_235⟩) 124 rfl) rfl rfl el34 sz30 zr30 rfl (by decide) bt30 rfl rfl (by first | omega | (simp only [List.length_append, List.length_cons, List.length_nil, List.length_take]; omega)) (by first | omega | (simp only [List.length_append, List.length_cons, List.length_nil, List.length_take]; omega)) fun A_237 c_238 cells_239 hro_240 => ?_)
        refine ⟨fun _ => (held_le ⟨rfl, rfl, rfl, trivial⟩ hle_232 h0_217), ?_⟩
        refine A_one (i := 10) (by kernel_rfl) ?_
        refine AS_op rfl (op_pv (lt_of rfl) (pv_fieldAddr rfl fl_37_3) ⟨(fun h => by cases h), ?_⟩)
        refine A_one (i := 11) (by kernel_rfl) ?_
        refine AS_op rfl (op_store_any (vs := [.slice A_237 (((c.steps.take (k).toNat) ++ [(c.steps.getD (k).toNat default)]).length) c_238]) (cs' := [.int .i64 c.gain, .int .u8 c.info.seq, .int .u8 c.info.shape, .int .i64 c.info.max, .slice A_169 c.info.groups.length c_170, .slice Ai ((c.sections.take (i).toNat).length) ci, .slice A_237 (((c.steps.take (k).toNat) ++ [(c.steps.getD (k).toNat default)]).length) c_238, .slice none 0 0, .slice A_179 c.lines.length c_180]) 117 rfl rfl rfl sz34 (by simp [Value.oneCell']) rfl (Nat.le_of_ble_eq_true rfl) rfl ?_)
        refine ⟨(fun h => by cases h), ?_⟩
        refine A_done (by kernel_rfl) ?_
        refine N_block ?_
        refine N_then ?_
        refine C_region rfl ?_
        refine T_pv rfl (pv_move rfl) ?_
        have hr_241 : InR .i64 (k + 1) := inR_i64 (by omega) (by omega)
        refine T_pv rfl (pv_add rfl rfl hr_241) ?_
        refine T_pv rfl (pv_assign rfl) ?_
        refine T_nil ?_
        rw [take_snoc (xs := c.steps) (by omega) (by omega)] at hro_240 ⊢
        refine N_next ((k + 1, S_231, A_237, c_238, cells_239)) ⟨(ImLe.trans hle_214 hle_232), ⟨by omega, by omega, hro_240⟩⟩ (by first | omega | (dsimp only; omega)) rfl ⟨rfl, rfl, rfl, rfl, rfl, rfl, trivial⟩ ⟨rfl, rfl, rfl, rfl, rfl, rfl, rfl, rfl, rfl, rfl, rfl, rfl, rfl, rfl, rfl, rfl, rfl, rfl, rfl, rfl, rfl, rfl, rfl, trivial⟩
      · -- decide (k < (c.steps.length : Int)) = false
        have hx_242 := of_decide_eq_false hb_215
        refine C_exit ?_
        refine X_then ?_
        refine X_loop ?_
        refine X_block ?_
        refine N_then ?_
        refine C_seq ?_
        refine C_seq ?_
        refine C_region rfl ?_
        refine T_pv rfl (pv_assign rfl) ?_
        refine T_nil ?_
        refine N_then ?_
        refine C_block ?_
        refine C_newNil 125 51 1 ?_
        refine C_loop (fun (x : Int × Im × (Option Addr) × Nat × (List Value)) => (x.2.1, [(101, .blk g_1 [.int .i64 c.gain, .int .u8 c.info.seq, .int .u8 c.info.shape, .int .i64 c.info.max, .slice Ac4 c.info.groups.length cc4, .slice Ac5 c.sections.length cc5, .slice Ac6 c.steps.length cc6, .slice Ac7 c.tns.length cc7, .slice Ac8 c.lines.length cc8] 37), (102, .blk g_2 [.int .i64 0, .int .u8 0, .int .u8 0, .int .i64 0, .slice none 0 0, .slice none 0 0, .slice none 0 0, .slice none 0 0, .slice none 0 0] 37), (117, .blk g_161 [.int .i64 c.gain, .int .u8 c.info.seq, .int .u8 c.info.shape, .int .i64 c.info.max, .slice A_169 c.info.groups.length c_170, .slice Ai ((c.sections.take (i).toNat).length) ci, .slice Ak ((c.steps.take (k).toNat).length) ck, .slice x.2.2.1 ((c.tns.take (x.1).toNat).length) x.2.2.2.1, .slice A_179 c.lines.length c_180] 37), (118, .row (.slice A_179 c.lines.length c_180) 3 1 c.lines.length cells_181), (119, .row (.slice Ai ((c.sections.take (i).toNat).length) ci) 50 1 ((c.sections.take (i).toNat).length) ei), (122, .row (.slice Ak ((c.steps.take (k).toNat).length) ck) 30 1 ((c.steps.take (k).toNat).length) ek), (125, .row (.slice x.2.2.1 ((c.tns.take (x.1).toNat).length) x.2.2.2.1) 51 1 ((c.tns.take (x.1).toNat).length) x.2.2.2.2)], [(0, .agg #[.int .i64 c.gain, .int .u8 c.info.seq, .int .u8 c.info.shape, .int .i64 c.info.max, .slice Ac4 c.info.groups.length cc4, .slice Ac5 c.sections.length cc5, .slice Ac6 c.steps.length cc6, .slice Ac7 c.tns.length cc7, .slice Ac8 c.lines.length cc8]), (1, .pointer (some ⟨g_1, 0, none⟩)), (2, .pointer (some ⟨g_2, 0, none⟩)), (10, .pointer (some ⟨g_1, 0, none⟩)), (11, .int .i64 c.gain), (12, .pointer (some ⟨g_1, 1, none⟩)), (13, .agg #[.int .u8 c.info.seq, .int .u8 c.info.shape, .int .i64 c.info.max, .slice Ac4 c.info.groups.length cc4]), (3, .pointer (some ⟨g_161, 0, none⟩)), (14, .agg #[.int .u8 c.info.seq, .int .u8 c.info.shape, .int .i64 c.info.max, .slice A_169 c.info.groups.length c_170]), (15, .agg #[.int .i64 c.gain, .int .u8 c.info.seq, .int .u8 c.info.shape, .int .i64 c.info.max, .slice A_169 c.info.groups.length c_170, .slice none 0 0, .slice none 0 0, .slice none 0 0, .slice none 0 0]), (16, .pointer (some ⟨g_161, 8, none⟩)), (17, .slice none 0 0), (18, .pointer (some ⟨g_1, 8, none⟩)), (19, .slice Ac8 c.lines.length cc8), (20, .slice A_179 c.lines.length c_180), (21, .pointer (some ⟨g_161, 8, none⟩)), (4, .int .i64 i), (22, .int .i64 i), (23, .pointer (some ⟨g_1, 5, none⟩)), (24, .slice Ac5 c.sections.length cc5), (25, .int .i64 (c.sections.length : Int)), (26, .bool (decide (i < (c.sections.length : Int)))), (5, .int .i64 k), (40, .int .i64 k), (41, .pointer (some ⟨g_1, 6, none⟩)), (42, .slice Ac6 c.steps.length cc6), (43, .int .i64 (c.steps.length : Int)), (44, .bool (decide (k < (c.steps.length : Int)))), (6, .int .i64 x.1)])) (fun (x : Int × Im × (Option Addr) × Nat × (List Value)) => ImLe T2 x.2.1 ∧ 0 ≤ x.1 ∧ x.1 ≤ c.tns.length ∧ RowOk (kSl kGFilter) (x.2.1.minus S) x.2.2.1 x.2.2.2.1 x.2.2.2.2 (c.tns.take (x.1).toNat)) (fun (x : Int × Im × (Option Addr) × Nat × (List Value)) => (c.tns.length - x.1).toNat) ((0, T2, none, 0, [])) ⟨(ImLe.refl _), ⟨by omega, by omega, RowOk.nil _ _⟩⟩ rfl ⟨rfl, rfl, rfl, rfl, rfl, rfl, rfl, trivial⟩ ⟨rfl, rfl, rfl, rfl, rfl, rfl, rfl, rfl, rfl, rfl, rfl, rfl, rfl, rfl, rfl, rfl, rfl, rfl, rfl, rfl, rfl, rfl, rfl, rfl, rfl, rfl, rfl, rfl, rfl, trivial⟩ ?_
        rintro ⟨u, T3, Au, cu, eu⟩ ⟨hle_243, ⟨t0, t1, t2⟩⟩
        dsimp only at *
        refine C_seq ?_
        refine C_seq ?_
        refine C_region rfl ?_
        refine T_pv rfl (pv_move rfl) ?_
        refine T_pv rfl (pv_fieldAddr rfl fl_37_4) ?_
        refine T_pv rfl (pv_load rfl ag35 (Cell.blk 101 rfl rfl)) ?_
        refine T_pv rfl (pv_len rfl el35) ?_
        refine T_pv rfl (pv_lss rfl rfl) ?_
        refine T_nil ?_
        refine N_then ?_
        refine C_cond rfl (fun hb_244 => ?_) (fun hb_244 => ?_)
        · -- decide (u < (c.tns.length : Int)) = true
          have hx_245 := of_decide_eq_true hb_244
          refine C_skip ?_
          refine N_then ?_
          refine C_seq ?_
          refine C_block ?_
          refine C_seq ?_
          refine C_region rfl ?_
          refine T_pv rfl (pv_assign rfl) ?_
          refine T_nil ?_
          refine N_then ?_
          refine C_seq ?_
          refine C_seq ?_
          refine C_region rfl ?_
          refine T_pv rfl (pv_assign rfl) ?_
          refine T_nil ?_
          refine N_then ?_
          refine C_block ?_
          have zz := z7.at_ (i := u) (by omega) (by omega)
          refine C_newNil 126 53 5 ?_
          refine C_loop (fun (x : Int × Im × (Option Addr) × Nat × (List Value)) => (x.2.1, [(101, .blk g_1 [.int .i64 c.gain, .int .u8 c.info.seq, .int .u8 c.info.shape, .int .i64 c.info.max, .slice Ac4 c.info.groups.length cc4, .slice Ac5 c.sections.length cc5, .slice Ac6 c.steps.length cc6, .slice Ac7 c.tns.length cc7, .slice Ac8 c.lines.length cc8] 37), (102, .blk g_2 [.int .i64 0, .int .u8 0, .int .u8 0, .int .i64 0, .slice none 0 0, .slice none 0 0, .slice none 0 0, .slice none 0 0, .slice none 0 0] 37), (117, .blk g_161 [.int .i64 c.gain, .int .u8 c.info.seq, .int .u8 c.info.shape, .int .i64 c.info.max, .slice A_169 c.info.groups.length c_170, .slice Ai ((c.sections.take (i).toNat).length) ci, .slice Ak ((c.steps.take (k).toNat).length) ck, .slice Au ((c.tns.take (u).toNat).length) cu, .slice A_179 c.lines.length c_180] 37), (118, .row (.slice A_179 c.lines.length c_180) 3 1 c.lines.length cells_181), (119, .row (.slice Ai ((c.sections.take (i).toNat).length) ci) 50 1 ((c.sections.take (i).toNat).length) ei), (122, .row (.slice Ak ((c.steps.take (k).toNat).length) ck) 30 1 ((c.steps.take (k).toNat).length) ek), (125, .row (.slice Au ((c.tns.take (u).toNat).length) cu) 51 1 ((c.tns.take (u).toNat).length) eu), (126, .row (.slice x.2.2.1 (((c.tns.getD (u).toNat default).take (x.1).toNat).length) x.2.2.2.1) 53 5 (((c.tns.getD (u).toNat default).take (x.1).toNat).length) x.2.2.2.2)], [(0, .agg #[.int .i64 c.gain, .int .u8 c.info.seq, .int .u8 c.info.shape, .int .i64 c.info.max, .slice Ac4 c.info.groups.length cc4, .slice Ac5 c.sections.length cc5, .slice Ac6 c.steps.length cc6, .slice Ac7 c.tns.length cc7, .slice Ac8 c.lines.length cc8]), (1, .pointer (some ⟨g_1, 0, none⟩)), (2, .pointer (some ⟨g_2, 0, none⟩)), (10, .pointer (some ⟨g_1, 0, none⟩)), (11, .int .i64 c.gain), (12, .pointer (some ⟨g_1, 1, none⟩)), (13, .agg #[.int .u8 c.info.seq, .int .u8 c.info.shape, .int .i64 c.info.max, .slice Ac4 c.info.groups.length cc4]), (3, .pointer (some ⟨g_161, 0, none⟩)), (14, .agg #[.int .u8 c.info.seq, .int .u8 c.info.shape, .int .i64 c.info.max, .slice A_169 c.info.groups.length c_170]), (15, .agg #[.int .i64 c.gain, .int .u8 c.info.seq, .int .u8 c.info.shape, .int .i64 c.info.max, .slice A_169 c.info.groups.length c_170, .slice none 0 0, .slice none 0 0, .slice none 0 0, .slice none 0 0]), (16, .pointer (some ⟨g_161, 8, none⟩)), (17, .slice none 0 0), (18, .pointer (some ⟨g_1, 8, none⟩)), (19, .slice Ac8 c.lines.length cc8), (20, .slice A_179 c.lines.length c_180), (21, .pointer (some ⟨g_161, 8, none⟩)), (4, .int .i64 i), (22, .int .i64 i), (23, .pointer (some ⟨g_1, 5, none⟩)), (24, .slice Ac5 c.sections.length cc5), (25, .int .i64 (c.sections.length : Int)), (26, .bool (decide (i < (c.sections.length : Int)))), (5, .int .i64 k), (40, .int .i64 k), (41, .pointer (some ⟨g_1, 6, none⟩)), (42, .slice Ac6 c.steps.length cc6), (43, .int .i64 (c.steps.length : Int)), (44, .bool (decide (k < (c.steps.length : Int)))), (6, .int .i64 u), (58, .int .i64 u), (59, .pointer (some ⟨g_1, 7, none⟩)), (60, .slice Ac7 c.tns.length cc7), (61, .int .i64 (c.tns.length : Int)), (62, .bool (decide (u < (c.tns.length : Int)))), (7, .slice x.2.2.1 (((c.tns.getD (u).toNat default).take (x.1).toNat).length) x.2.2.2.1), (8, .int .i64 x.1)])) (fun (x : Int × Im × (Option Addr) × Nat × (List Value)) => ImLe T3 x.2.1 ∧ 0 ≤ x.1 ∧ x.1 ≤ (c.tns.getD (u).toNat default).length ∧ RowOk kGFilter (x.2.1.minus S) x.2.2.1 x.2.2.2.1 x.2.2.2.2 ((c.tns.getD (u).toNat default).take (x.1).toNat)) (fun (x : Int × Im × (Option Addr) × Nat × (List Value)) => ((c.tns.getD (u).toNat default).length - x.1).toNat) ((0, T3, none, 0, [])) ⟨(ImLe.refl _), ⟨by omega, by omega, RowOk.nil _ _⟩⟩ rfl ⟨rfl, rfl, rfl, rfl, rfl, rfl, rfl, rfl, trivial⟩ ⟨rfl, rfl, rfl, rfl, rfl, rfl, rfl, rfl, rfl, rfl, rfl, rfl, rfl, rfl, rfl, rfl, rfl, rfl, rfl, rfl, rfl, rfl, rfl, rfl, rfl, rfl, rfl, rfl, rfl, rfl, rfl, rfl, rfl, rfl, rfl, rfl, trivial⟩ ?_
          rintro ⟨v, T4, Av, cv, ev⟩ ⟨hle_246, ⟨w0', w1, w2⟩⟩
          dsimp only at *
          refine C_seq ?_
          refine C_seq ?_
          refine C_region rfl ?_
          refine T_pv rfl (pv_move rfl) ?_
          refine T_pv rfl (pv_fieldAddr rfl fl_37_4) ?_
          refine T_pv rfl (pv_load rfl ag35 (Cell.blk 101 rfl rfl)) ?_
          refine T_pv rfl (pv_move rfl) ?_
          obtain ⟨us_247, hk_248, he_249⟩ := RdA.elt hc7 (i := u) (by omega) (by omega)
          obtain ⟨A_250, c_251, rfl, h_252⟩ := hk_248
          have hb_253 := h_252.bd
          refine T_pv rfl (pv_idx hc7 rfl rfl el35 sz51 (by omega) (by omega)) ?_
          refine T_pv rfl (pv_load rfl ag51 ((he_249 _ _ (ImLe.trans (ImLe.trans (ImLe.trans (ImLe.trans hle_166 hle_185) hle_214) hle_243) hle_246)).zero rfl)) ?_
          refine T_pv rfl (pv_len rfl el51) ?_
          refine T_pv rfl (pv_lss rfl rfl) ?_
          refine T_nil ?_
          refine N_then ?_
          refine C_cond rfl (fun hb_254 => ?_) (fun hb_254 => ?_)
          · -- decide (v < ((c.tns.getD (u).toNat default).length : Int)) = true
            have hx_255 := of_decide_eq_true hb_254
            refine C_skip ?_
            refine N_then ?_
            refine C_seq ?_
            refine C_block ?_
            refine C_seq ?_
            refine C_region rfl ?_
            refine T_pv rfl (pv_fieldAddr rfl fl_37_4) ?_
            refine T_pv rfl (pv_load rfl ag35 (Cell.blk 101 rfl rfl)) ?_
            refine T_pv rfl (pv_move rfl) ?_
            refine T_pv rfl (pv_idx hc7 rfl rfl el35 sz51 (by omega) (by omega)) ?_
            refine T_pv rfl (pv_load rfl ag51 ((he_249 _ _ (ImLe.trans (ImLe.trans (ImLe.trans (ImLe.trans hle_166 hle_185) hle_214) hle_243) hle_246)).zero rfl)) ?_
            refine T_pv rfl (pv_move rfl) ?_
            obtain ⟨us_256, hk_257, he_258⟩ := RdA.elt h_252 (i := v) (by omega) (by omega)
            obtain ⟨A_259, c_260, rfl, h_261, h_262, h_263⟩ := hk_257
            have hq_264 := InR.i64 h_261
            have hq_265 := InR.i64 h_262
            have hb_266 := h_263.bd
            refine T_pv rfl (pv_idx h_252 rfl rfl el51 sz53 (by omega) (by omega)) ?_
            refine T_pv rfl (pv_load_aggE (cs := [.int .i64 (((c.tns.getD (u).toNat default).getD (v).toNat default).len), .int .i64 (((c.tns.getD (u).toNat default).getD (v).toNat default).order), .bool (((c.tns.getD (u).toNat default).getD (v).toNat default).down), .bool (((c.tns.getD (u).toNat default).getD (v).toNat default).fine), .slice A_259 ((((c.tns.getD (u).toNat default).getD (v).toNat default).coefs).length) c_260]) rfl ag53 sz53 (he_258 _ _ (ImLe.trans (ImLe.trans (ImLe.trans (ImLe.trans hle_166 hle_185) hle_214) hle_243) hle_246))) ?_
            refine T_cons (op_alloc (cs := [.int .i64 0, .int .i64 0, .bool false, .bool false, .slice none 0 0]) (lt_of rfl) 127 zr53 rfl fun g_267 => ?_)
            refine T_cons (op_store_any (vs := [.int .i64 (((c.tns.getD (u).toNat default).getD (v).toNat default).len), .int .i64 (((c.tns.getD (u).toNat default).getD (v).toNat default).order), .bool (((c.tns.getD (u).toNat default).getD (v).toNat default).down), .bool (((c.tns.getD (u).toNat default).getD (v).toNat default).fine), .slice A_259 ((((c.tns.getD (u).toNat default).getD (v).toNat default).coefs).length) c_260]) (cs' := [.int .i64 (((c.tns.getD (u).toNat default).getD (v).toNat default).len), .int .i64 (((c.tns.getD (u).toNat default).getD (v).toNat default).order), .bool (((c.tns.getD (u).toNat default).getD (v).toNat default).down), .bool (((c.tns.getD (u).toNat default).getD (v).toNat default).fine), .slice A_259 ((((c.tns.getD (u).toNat default).getD (v).toNat default).coefs).length) c_260]) 127 rfl rfl rfl sz53 (by simp [Value.oneCell']) rfl (Nat.le_of_ble_eq_true rfl) rfl ?_)
            refine T_nil ?_
            refine N_then ?_
            refine C_seq ?_
            refine C_region rfl ?_
            refine T_pv rfl (pv_fieldAddr rfl fl_53_4) ?_
            refine T_pv rfl (pv_load rfl ag30 (Cell.blk 127 rfl rfl)) ?_
            have zf : _ ≤ 2000 := zz.2.at_ (i := v) (by omega) (by omega)
            refine T_newNil 128 3 1 ?_
            obtain ⟨news_272, hs_273⟩ := RdA.src (h_263.mono (ImLe.trans (ImLe.trans (ImLe.trans (ImLe.trans hle_166 hle_185) hle_214) hle_243) hle_246))
            refine T_cons (op_appendR0 (lt_of rfl) 128 (RowOk.any (S' := (T4.minus S)) (fun _ _ _ _ h => h) (RowOk.nil (kInt .i64) T4)) (Src.any (fun _ _ _ _ h => h) (hs_273 _ _ (ImLe.refl _))) rfl rfl el30 sz3 zr3 rfl (by decide) bt3 rfl rfl (by first | omega | (simp only [List.length_append, List.length_cons, List.length_nil, List.length_take]; omega)) (by first | omega | (simp only [List.length_append, List.length_cons, List.length_nil, List.length_take]; omega)) fun A_268 c_269 cells_270 hro_271 => ?_)
            refine T_pv rfl (pv_fieldAddr rfl fl_53_4) ?_
            refine T_cons (op_store_any (vs := [.slice A_268 ((((c.tns.getD (u).toNat default).getD (v).toNat default).coefs).length) c_269]) (cs' := [.int .i64 (((c.tns.getD (u).toNat default).getD (v).toNat default).len), .int .i64 (((c.tns.getD (u).toNat default).getD (v).toNat default).order), .bool (((c.tns.getD (u).toNat default).getD (v).toNat default).down), .bool (((c.tns.getD (u).toNat default).getD (v).toNat default).fine), .slice A_268 ((((c.tns.getD (u).toNat default).getD (v).toNat default).coefs).length) c_269]) 127 rfl rfl rfl sz30 (by simp [Value.oneCell']) rfl (Nat.le_of_ble_eq_true rfl) rfl ?_)
            refine T_nil ?_
            refine N_then ?_
            refine C_region rfl ?_
            refine T_pv rfl (pv_move rfl) ?_
            refine T_pv rfl (pv_load_agg (cs := [.int .i64 (((c.tns.getD (u).toNat default).getD (v).toNat default).len), .int .i64 (((c.tns.getD (u).toNat default).getD (v).toNat default).order), .bool (((c.tns.getD (u).toNat default).getD (v).toNat default).down), .bool (((c.tns.getD (u).toNat default).getD (v).toNat default).fine), .slice A_268 ((((c.tns.getD (u).toNat default).getD (v).toNat default).coefs).length) c_269]) rfl ag53 sz53 rfl ⟨Cell.blk 127 rfl rfl, Cell.blk 127 rfl rfl, Cell.blk 127 rfl rfl, Cell.blk 127 rfl rfl, Cell.blk 127 rfl rfl, trivial⟩) ?_
            refine T_freezeRow 128 rfl (fun S_274 hle_275 hz_276 => ?_)
            have hf_278 : RdA (kInt .i64) (S_274.minus S) A_268 c_269 (((c.tns.getD (u).toNat default).getD (v).toNat default).coefs) := (hz_276 _ (ImLe.trans (ImLe.trans (ImLe.trans (ImLe.trans hle_166 hle_185) hle_214) hle_243) hle_246) (kInt .i64) _ rfl hro_271.len ((hro_271.mono (Im.minus_mono hle_275)).rd))
            refine T_cons (op_buildSlice1 (cs := [.int .i64 (((c.tns.getD (u).toNat default).getD (v).toNat default).len), .int .i64 (((c.tns.getD (u).toNat default).getD (v).toNat default).order), .bool (((c.tns.getD (u).toNat default).getD (v).toNat default).down), .bool (((c.tns.getD (u).toNat default).getD (v).toNat default).fine), .slice A_268 ((((c.tns.getD (u).toNat default).getD (v).toNat default).coefs).length) c_269]) (lt_of rfl) 129 rfl rfl el51 sz53 zr53 (by decide) (by decide) rfl fun g_279 => ?_)
            refine T_cons (op_appendR (lt_of rfl) 126 (w2.mono (Im.minus_mono hle_275)) (RowOk.src (RowOk.lit1 (d := kGFilter) (S := (S_274.minus S)) (x := (⟨((c.tns.getD (u).toNat default).getD (v).toNat default).len, ((c.tns.getD (u).toNat default).getD (v).toNat default).order, ((c.tns.getD (u).toNat default).getD (v).toNat default).down, ((c.tns.getD (u).toNat default).getD (v).toNat default).fine, (((c.tns.getD (u).toNat default).getD (v).toNat default).coefs)⟩ : GFilter)) g_279 ⟨_, _, rfl, h_261, h_262, hf_278⟩) 129 rfl) rfl rfl el51 sz53 zr53 rfl (by decide) bt53 rfl rfl (by first | omega | (simp only [List.length_append, List.length_cons, List.length_nil, List.length_take]; omega)) (by first | omega | (simp only [List.length_append, List.length_cons, List.length_nil, List.length_take]; omega)) fun A_280 c_281 cells_282 hro_283 => ?_)
            refine T_pv rfl (pv_assign rfl) ?_
            refine T_nil ?_
            refine N_block ?_
            refine N_then ?_
            refine C_region rfl ?_
            refine T_pv rfl (pv_move rfl) ?_
            have hr_284 : InR .i64 (v + 1) := inR_i64 (by omega) (by omega)
            refine T_pv rfl (pv_add rfl rfl hr_284) ?_
            refine T_pv rfl (pv_assign rfl) ?_
            refine T_nil ?_
            rw [take_snoc (xs := (c.tns.getD (u).toNat default)) (by omega) (by omega)] at hro_283 ⊢
            refine N_next ((v + 1, S_274, A_280, c_281, cells_282)) ⟨(ImLe.trans hle_246 hle_275), ⟨by omega, by omega, hro_283⟩⟩ (by first | omega | (dsimp only; omega)) rfl ⟨rfl, rfl, rfl, rfl, rfl, rfl, rfl, rfl, trivial⟩ ⟨rfl, rfl, rfl, rfl, rfl, rfl, rfl, rfl, rfl, rfl, rfl, rfl, rfl, rfl, rfl, rfl, rfl, rfl, rfl, rfl, rfl, rfl, rfl, rfl, rfl, rfl, rfl, rfl, rfl, rfl, rfl, rfl, rfl, rfl, rfl, rfl, trivial⟩
          · -- decide (v < ((c.tns.getD (u).toNat default).length : Int)) = false
            have hx_285 := of_decide_eq_false hb_254
            refine C_exit ?_
            refine X_then ?_
            refine X_loop ?_
            refine X_block ?_
            refine N_then ?_
            refine C_region rfl ?_
            rw [take_all (xs := (c.tns.getD (u).toNat default)) (i := v) (by omega)] at w2 ⊢
            refine T_pv rfl (pv_fieldAddr rfl fl_37_4) ?_
            refine T_pv rfl (pv_load rfl ag35 (Cell.blk 117 rfl rfl)) ?_
            refine T_pv rfl (pv_move rfl) ?_
            refine T_freezeRow 126 rfl (fun S_286 hle_287 hz_288 => ?_)
            have hf_290 : RdA kGFilter (S_286.minus S) Av cv (c.tns.getD (u).toNat default) := (hz_288 _ (ImLe.trans (ImLe.trans (ImLe.trans (ImLe.trans hle_166 hle_185) hle_214) hle_243) hle_246) kGFilter _ rfl w2.len ((w2.mono (Im.minus_mono hle_287)).rd))
            refine T_cons (op_buildSlice1 (cs := [.slice Av ((c.tns.getD (u).toNat default).length) cv]) (lt_of rfl) 130 rfl rfl el35 sz51 zr51 (by decide) (by decide) rfl fun g_291 => ?_)
            refine T_cons (op_appendR (lt_of rfl) 125 (t2.mono (Im.minus_mono (ImLe.trans hle_246 hle_287))) (RowOk.src (RowOk.lit1 (d := (kSl kGFilter)) (S := (S_286.minus S)) (x := (c.tns.getD (u).toNat default)) g_291 ⟨_, _, rfl, hf_290⟩) 130 rfl) rfl rfl el35 sz51 zr51 rfl (by decide) bt51 rfl rfl (by first | omega | (simp only [List.length_append, List.length_cons, List.length_nil, List.length_take]; omega)) (by first | omega | (simp only [List.length_append, List.length_cons, List.length_nil, List.length_take]; omega)) fun A_292 c_293 cells_294 hro_295 => ?_)
            refine T_pv rfl (pv_fieldAddr rfl fl_37_4) ?_
            refine T_cons (op_store_any (vs := [.slice A_292 (((c.tns.take (u).toNat) ++ [(c.tns.getD (u).toNat default)]).length) c_293]) (cs' := [.int .i64 c.gain, .int .u8 c.info.seq, .int .u8 c.info.shape, .int .i64 c.info.max, .slice A_169 c.info.groups.length c_170, .slice Ai ((c.sections.take (i).toNat).length) ci, .slice Ak ((c.steps.take (k).toNat).length) ck, .slice A_292 (((c.tns.take (u).toNat) ++ [(c.tns.getD (u).toNat default)]).length) c_293, .slice A_179 c.lines.length c_180]) 117 rfl rfl rfl sz35 (by simp [Value.oneCell']) rfl (Nat.le_of_ble_eq_true rfl) rfl ?_)
            refine T_nil ?_
            refine N_block ?_
            refine N_then ?_
            refine C_region rfl ?_
            refine T_pv rfl (pv_move rfl) ?_
            have hr_296 : InR .i64 (u + 1) := inR_i64 (by omega) (by omega)
            refine T_pv rfl (pv_add rfl rfl hr_296) ?_
            refine T_pv rfl (pv_assign rfl) ?_
            refine T_nil ?_
            rw [take_snoc (xs := c.tns) (by omega) (by omega)] at hro_295 ⊢
            refine N_next ((u + 1, S_286, A_292, c_293, cells_294)) ⟨(ImLe.trans (ImLe.trans hle_243 hle_246) hle_287), ⟨by omega, by omega, hro_295⟩⟩ (by first | omega | (dsimp only; omega)) rfl ⟨rfl, rfl, rfl, rfl, rfl, rfl, rfl, trivial⟩ ⟨rfl, rfl, rfl, rfl, rfl, rfl, rfl, rfl, rfl, rfl, rfl, rfl, rfl, rfl, rfl, rfl, rfl, rfl, rfl, rfl, rfl, rfl, rfl, rfl, rfl, rfl, rfl, rfl, rfl, trivial⟩
        · -- decide (u < (c.tns.length : Int)) = false
          have hx_297 := of_decide_eq_false hb_244
          refine C_exit ?_
          refine X_then ?_
          refine X_loop ?_
          refine X_block ?_
          refine N_then ?_
          refine C_seq ?_
          refine C_region rfl ?_
          refine T_pv rfl (pv_load_agg (cs := [.int .i64 c.gain, .int .u8 c.info.seq, .int .u8 c.info.shape, .int .i64 c.info.max, .slice A_169 c.info.groups.length c_170, .slice Ai ((c.sections.take (i).toNat).length) ci, .slice Ak ((c.steps.take (k).toNat).length) ck, .slice Au ((c.tns.take (u).toNat).length) cu, .slice A_179 c.lines.length c_180]) rfl ag37 sz37 rfl ⟨Cell.blk 117 rfl rfl, Cell.blk 117 rfl rfl, Cell.blk 117 rfl rfl, Cell.blk 117 rfl rfl, Cell.blk 117 rfl rfl, Cell.blk 117 rfl rfl, Cell.blk 117 rfl rfl, Cell.blk 117 rfl rfl, Cell.blk 117 rfl rfl, trivial⟩) ?_
          refine T_cons (op_store_any (vs := [.int .i64 c.gain, .int .u8 c.info.seq, .int .u8 c.info.shape, .int .i64 c.info.max, .slice A_169 c.info.groups.length c_170, .slice Ai ((c.sections.take (i).toNat).length) ci, .slice Ak ((c.steps.take (k).toNat).length) ck, .slice Au ((c.tns.take (u).toNat).length) cu, .slice A_179 c.lines.length c_180]) (cs' := [.int .i64 c.gain, .int .u8 c.info.seq, .int .u8 c.info.shape, .int .i64 c.info.max, .slice A_169 c.info.groups.length c_170, .slice Ai ((c.sections.take (i).toNat).length) ci, .slice Ak ((c.steps.take (k).toNat).length) ck, .slice Au ((c.tns.take (u).toNat).length) cu, .slice A_179 c.lines.length c_180]) 102 rfl rfl rfl sz37 (by simp [Value.oneCell']) rfl (Nat.le_of_ble_eq_true rfl) rfl ?_)
          refine T_nil ?_
          refine N_then ?_
          refine C_ret0 ?_
          -- ret 1: .agg #[.int .i64 c.gain, .int .u8 c.info.seq, .int .u8 c.info.shape, .int .i64 c.info.max, .slice A_169 c.info.groups.length c_170, .slice Ai ((c.sections.take (i).toNat).length) ci, .slice Ak ((c.steps.take (k).toNat).length) ck, .slice Au ((c.tns.take (u).toNat).length) cu, .slice A_179 c.lines.length c_180]
          refine G_freeze 119 rfl (fun S_298 hle_299 hz_300 => ?_)
          have hf_302 : RdA (kSl kGSection) (S_298.minus S) Ai ci (c.sections.take (i).toNat) := (hz_300 _ (ImLe.trans (ImLe.trans (ImLe.trans hle_166 hle_185) hle_214) hle_243) (kSl kGSection) _ rfl q2.len (((q2.mono (Im.minus_mono (ImLe.trans hle_214 hle_243))).mono (Im.minus_mono hle_299)).rd))
          refine G_freeze 122 rfl (fun S_303 hle_304 hz_305 => ?_)
          have hf_307 : RdA (kSl (kInt .i64)) (S_303.minus S) Ak ck (c.steps.take (k).toNat) := (hz_305 _ (ImLe.trans (ImLe.trans (ImLe.trans (ImLe.trans hle_166 hle_185) hle_214) hle_243) hle_299) (kSl (kInt .i64)) _ rfl s2.len (((s2.mono (Im.minus_mono (ImLe.trans hle_243 hle_299))).mono (Im.minus_mono hle_304)).rd))
          refine G_freeze 125 rfl (fun S_308 hle_309 hz_310 => ?_)
          have hf_312 : RdA (kSl kGFilter) (S_308.minus S) Au cu (c.tns.take (u).toNat) := (hz_310 _ (ImLe.trans (ImLe.trans (ImLe.trans (ImLe.trans (ImLe.trans hle_166 hle_185) hle_214) hle_243) hle_299) hle_304) (kSl kGFilter) _ rfl t2.len (((t2.mono (Im.minus_mono (ImLe.trans hle_299 hle_304))).mono (Im.minus_mono hle_309)).rd))
          refine G_freeze 118 rfl (fun S_313 hle_314 hz_315 => ?_)
          have hf_317 : RdA (kInt .i64) (S_313.minus S) A_179 c_180 c.lines := (hz_315 _ (ImLe.trans (ImLe.trans (ImLe.trans (ImLe.trans (ImLe.trans (ImLe.trans hle_166 hle_185) hle_214) hle_243) hle_299) hle_304) hle_309) (kInt .i64) _ rfl hro_182.len (((hro_182.mono (Im.minus_mono (ImLe.trans (ImLe.trans (ImLe.trans (ImLe.trans (ImLe.trans hle_185 hle_214) hle_243) hle_299) hle_304) hle_309))).mono (Im.minus_mono hle_314)).rd))
          refine Q_ret (vs := [.agg #[.int .i64 c.gain, .int .u8 c.info.seq, .int .u8 c.info.shape, .int .i64 c.info.max, .slice A_169 c.info.groups.length c_170, .slice Ai ((c.sections.take (i).toNat).length) ci, .slice Ak ((c.steps.take (k).toNat).length) ck, .slice Au ((c.tns.take (u).toNat).length) cu, .slice A_179 c.lines.length c_180]]) ⟨⟨_, rfl, .inr ⟨[.int .i64 c.gain, .int .u8 c.info.seq, .int .u8 c.info.shape, .int .i64 c.info.max, .slice A_169 c.info.groups.length c_170, .slice Ai ((c.sections.take (i).toNat).length) ci, .slice Ak ((c.steps.take (k).toNat).length) ck, .slice Au ((c.tns.take (u).toNat).length) cu, .slice A_179 c.lines.length c_180], rfl, ag37, sz37, ⟨Cell.blk 102 rfl rfl, Cell.blk 102 rfl rfl, Cell.blk 102 rfl rfl, Cell.blk 102 rfl rfl, Cell.blk 102 rfl rfl, Cell.blk 102 rfl rfl, Cell.blk 102 rfl rfl, Cell.blk 102 rfl rfl, Cell.blk 102 rfl rfl, trivial⟩, rfl⟩⟩, trivial⟩ (L' := []) [] trivial (by simp) (by decide) (⟨_, (⟨c.gain, c.info, (c.sections.take (i).toNat), (c.steps.take (k).toNat), (c.tns.take (u).toNat), c.lines⟩ : GChan), rfl, rfl, ?_, ⟨_, _, _, _, _, _, _, _, _, _, rfl, hc0, h_171, h_172, h_173, (h_174.mono (Im.minus_mono (ImLe.trans (ImLe.trans (ImLe.trans (ImLe.trans (ImLe.trans (ImLe.trans hle_185 hle_214) hle_243) hle_299) hle_304) hle_309) hle_314))), (hf_302.mono (Im.minus_mono (ImLe.trans (ImLe.trans hle_304 hle_309) hle_314))), (hf_307.mono (Im.minus_mono (ImLe.trans hle_309 hle_314))), (hf_312.mono (Im.minus_mono hle_314)), hf_317⟩⟩)
          · rw [GChan.eq_iff]; exact ⟨rfl, rfl, (take_all (by omega)).symm, (take_all (by omega)).symm, (take_all (by omega)).symm, rfl⟩

set_option maxRecDepth 100000 in
theorem f_r23_Twin (S : Im) (f : GFrame) (Af0 : Option Addr) (cf0 : Nat) (hf0 : RdA kGChan S Af0 cf0 f.chans) (hf2 : InR .i64 f.mask) (Af3 : Option Addr) (cf3 : Nat) (hf3 : RdA (kSl kBool) S Af3 cf3 f.bands) (Af4 : Option Addr) (cf4 : Nat) (hf4 : RdA (kInt .u8) S Af4 cf4 f.fill) (p0 : GFrame.small f) : Fn Try.prog 8 [.agg #[.slice Af0 f.chans.length cf0, .bool f.common, .int .i64 f.mask, .slice Af3 f.bands.length cf3, .slice Af4 f.fill.length cf4]] S [] fun v S' L' => ∃ (ur0 : List Value) (r0 : GFrame), v = .agg ur0.toArray ∧ L' = [] ∧ f = r0 ∧ kGFrame.K (S'.minus S) ur0 r0 := by
  have hb_f0 := hf0.bd
  have hb_f2 := InR.i64 hf2
  have hb_f3 := hf3.bd
  have hb_f4 := hf4.bd
  have z1 := p0.chans; have z2 := p0.chan1; have z3 := p0.bands; have z4 := p0.band1; have z5 := p0.fill
  refine Fn_intro 54 Try.func8 rfl rfl rfl fun w0 => ?_
  refine C_seq ?_
  refine C_region rfl ?_
  refine T_cons (op_box (cs := [.slice Af0 f.chans.length cf0, .bool f.common, .int .i64 f.mask, .slice Af3 f.bands.length cf3, .slice Af4 f.fill.length cf4]) (lt_of rfl) 101 rfl rfl fun g_1 => ?_)
  refine T_cons (op_alloc (cs := [.slice none 0 0, .bool false, .int .i64 0, .slice none 0 0, .slice none 0 0]) (lt_of rfl) 102 zr26 rfl fun g_2 => ?_)
  refine T_nil ?_
  refine N_then ?_
  refine C_seq ?_
  refine C_region rfl ?_
  refine T_pv rfl (pv_fieldAddr rfl fl_26_1) ?_
  refine T_pv rfl (pv_load rfl ag4 (Cell.blk 101 rfl rfl)) ?_
  refine T_pv rfl (pv_fieldAddr rfl fl_26_2) ?_
  refine T_pv rfl (pv_load rfl ag3 (Cell.blk 101 rfl rfl)) ?_
  refine T_pv rfl (pv_buildL (cs := [.slice none 0 0, .bool f.common, .int .i64 f.mask, .slice none 0 0, .slice none 0 0]) rfl zr26 pl26 rfl) ?_
  refine T_cons (op_alloc (cs := [.slice none 0 0, .bool false, .int .i64 0, .slice none 0 0, .slice none 0 0]) (lt_of rfl) 103 zr26 rfl fun g_3 => ?_)
  refine T_cons (op_store_any (vs := [.slice none 0 0, .bool f.common, .int .i64 f.mask, .slice none 0 0, .slice none 0 0]) (cs' := [.slice none 0 0, .bool f.common, .int .i64 f.mask, .slice none 0 0, .slice none 0 0]) 103 rfl rfl rfl sz26 (by simp [Value.oneCell']) rfl (Nat.le_of_ble_eq_true rfl) rfl ?_)
  refine T_nil ?_
  refine N_then ?_
  refine C_seq ?_
  refine C_seq ?_
  refine C_region rfl ?_
  refine T_pv rfl (pv_assign rfl) ?_
  refine T_nil ?_
  refine N_then ?_
  refine C_block ?_
  refine C_newNil 104 37 9 ?_
  refine C_loop (fun (x : Int × Im × (Option Addr) × Nat × (List Value)) => (x.2.1, [(101, .blk g_1 [.slice Af0 f.chans.length cf0, .bool f.common, .int .i64 f.mask, .slice Af3 f.bands.length cf3, .slice Af4 f.fill.length cf4] 26), (102, .blk g_2 [.slice none 0 0, .bool false, .int .i64 0, .slice none 0 0, .slice none 0 0] 26), (103, .blk g_3 [.slice x.2.2.1 ((f.chans.take (x.1).toNat).length) x.2.2.2.1, .bool f.common, .int .i64 f.mask, .slice none 0 0, .slice none 0 0] 26), (104, .row (.slice x.2.2.1 ((f.chans.take (x.1).toNat).length) x.2.2.2.1) 37 9 ((f.chans.take (x.1).toNat).length) x.2.2.2.2)], [(0, .agg #[.slice Af0 f.chans.length cf0, .bool f.common, .int .i64 f.mask, .slice Af3 f.bands.length cf3, .slice Af4 f.fill.length cf4]), (1, .pointer (some ⟨g_1, 0, none⟩)), (2, .pointer (some ⟨g_2, 0, none⟩)), (6, .pointer (some ⟨g_1, 1, none⟩)), (7, .bool f.common), (8, .pointer (some ⟨g_1, 2, none⟩)), (9, .int .i64 f.mask), (10, .agg #[.slice none 0 0, .bool f.common, .int .i64 f.mask, .slice none 0 0, .slice none 0 0]), (3, .pointer (some ⟨g_3, 0, none⟩)), (4, .int .i64 x.1)])) (fun (x : Int × Im × (Option Addr) × Nat × (List Value)) => ImLe S x.2.1 ∧ 0 ≤ x.1 ∧ x.1 ≤ f.chans.length ∧ RowOk kGChan (x.2.1.minus S) x.2.2.1 x.2.2.2.1 x.2.2.2.2 (f.chans.take (x.1).toNat)) (fun (x : Int × Im × (Option Addr) × Nat × (List Value)) => (f.chans.length - x.1).toNat) ((0, S, none, 0, [])) ⟨(ImLe.refl _), ⟨by omega, by omega, RowOk.nil _ _⟩⟩ rfl ⟨rfl, rfl, rfl, rfl, trivial⟩ ⟨rfl, rfl, rfl, rfl, rfl, rfl, rfl, rfl, rfl, rfl, trivial⟩ ?_
  rintro ⟨i, T1, Ai, ci, ei⟩ ⟨hle_4, ⟨q0, q1, q2⟩⟩
  dsimp only at *
  refine C_seq ?_
  refine C_seq ?_
  refine C_region rfl ?_
  refine T_pv rfl (pv_move rfl) ?_
  refine T_pv rfl (pv_fieldAddr rfl fl_26_0) ?_
  refine T_pv rfl (pv_load rfl ag22 (Cell.blk 101 rfl rfl)) ?_
  refine T_pv rfl (pv_len rfl el22) ?_
  refine T_pv rfl (pv_lss rfl rfl) ?_
  refine T_nil ?_
  refine N_then ?_
  refine C_cond rfl (fun hb_5 => ?_) (fun hb_5 => ?_)
  · -- decide (i < (f.chans.length : Int)) = true
    have hx_6 := of_decide_eq_true hb_5
    refine C_skip ?_
    refine N_then ?_
    refine C_seq ?_
    refine C_block ?_
    refine C_drawS (T1) [(101, .blk g_1 [.slice Af0 f.chans.length cf0, .bool f.common, .int .i64 f.mask, .slice Af3 f.bands.length cf3, .slice Af4 f.fill.length cf4] 26), (102, .blk g_2 [.slice none 0 0, .bool false, .int .i64 0, .slice none 0 0, .slice none 0 0] 26), (103, .blk g_3 [.slice Ai ((f.chans.take (i).toNat).length) ci, .bool f.common, .int .i64 f.mask, .slice none 0 0, .slice none 0 0] 26)] 10 (by kernel_rfl) rfl (fun h0_7 => ?_)
    refine A_take (i := 0) rfl (by kernel_rfl) (held_le ⟨rfl, rfl, rfl, trivial⟩ (ImLe.refl _) h0_7) rfl (pv_fieldAddr rfl fl_26_0) ?_
    refine A_take (i := 1) rfl (by kernel_rfl) (held_le ⟨rfl, rfl, rfl, trivial⟩ (ImLe.refl _) h0_7) rfl (pv_load rfl ag22 (Cell.blk 103 rfl rfl)) ?_
    refine A_take (i := 2) rfl (by kernel_rfl) (held_le ⟨rfl, rfl, rfl, trivial⟩ (ImLe.refl _) h0_7) rfl (pv_fieldAddr rfl fl_26_0) ?_
    refine A_take (i := 3) rfl (by kernel_rfl) (held_le ⟨rfl, rfl, rfl, trivial⟩ (ImLe.refl _) h0_7) rfl (pv_load rfl ag22 (Cell.blk 101 rfl rfl)) ?_
    refine A_take (i := 4) rfl (by kernel_rfl) (held_le ⟨rfl, rfl, rfl, trivial⟩ (ImLe.refl _) h0_7) rfl (pv_move rfl) ?_
    obtain ⟨us_8, hk_9, he_10⟩ := RdA.elt hf0 (i := i) (by omega) (by omega)
    obtain ⟨A_11, c_12, A_13, c_14, A_15, c_16, A_17, c_18, A_19, c_20, rfl, h_21, h_22, h_23, h_24, h_25, h_26, h_27, h_28, h_29⟩ := hk_9
    have hq_30 := InR.i64 h_21
    have hq_31 := InR.u8 h_22
    have hq_32 := InR.u8 h_23
    have hq_33 := InR.i64 h_24
    have hb_34 := h_25.bd
    have hb_35 := h_26.bd
    have hb_36 := h_27.bd
    have hb_37 := h_28.bd
    have hb_38 := h_29.bd
    refine A_take (i := 5) rfl (by kernel_rfl) (held_le ⟨rfl, rfl, rfl, trivial⟩ (ImLe.refl _) h0_7) rfl (pv_idx hf0 rfl rfl el22 sz37 (by omega) (by omega)) ?_
    refine A_take (i := 6) rfl (by kernel_rfl) (held_le ⟨rfl, rfl, rfl, trivial⟩ (ImLe.refl _) h0_7) rfl (pv_load_aggE (cs := [.int .i64 ((f.chans.getD (i).toNat default).gain), .int .u8 (((f.chans.getD (i).toNat default).info).seq), .int .u8 (((f.chans.getD (i).toNat default).info).shape), .int .i64 (((f.chans.getD (i).toNat default).info).max), .slice A_11 ((((f.chans.getD (i).toNat default).info).groups).length) c_12, .slice A_13 (((f.chans.getD (i).toNat default).sections).length) c_14, .slice A_15 (((f.chans.getD (i).toNat default).steps).length) c_16, .slice A_17 (((f.chans.getD (i).toNat default).tns).length) c_18, .slice A_19 (((f.chans.getD (i).toNat default).lines).length) c_20]) rfl ag37 sz37 (he_10 _ _ hle_4)) ?_
    refine A_one (i := 7) (by kernel_rfl) ?_
    have zz : GChan.small _ := z2.at_ (i := i) (by omega) (by omega)
    refine AS_op rfl (op_call (fun _ h => by cases h; exact lt_of rfl) rfl rfl rfl en21 (f_r18_Twin _ (f.chans.getD (i).toNat default) h_21 h_22 h_23 h_24 _ _ (h_25.mono hle_4) _ _ (h_26.mono hle_4) _ _ (h_27.mono hle_4) _ _ (h_28.mono hle_4) _ _ (h_29.mono hle_4) zz) [] trivial (by simp) (by decide) ?_)
    rintro v_44 S_42 L_45 ⟨us_39, r_40, rfl, rfl, rfl, h_41⟩ hle_43
    obtain ⟨A_46, c_47, A_48, c_49, A_50, c_51, A_52, c_53, A_54, c_55, rfl, h_56, h_57, h_58, h_59, h_60, h_61, h_62, h_63, h_64⟩ := h_41
    have hq_65 := InR.i64 h_56
    have hq_66 := InR.u8 h_57
    have hq_67 := InR.u8 h_58
    have hq_68 := InR.i64 h_59
    have hb_69 := h_60.bd
    have hb_70 := h_61.bd
    have hb_71 := h_62.bd
    have hb_72 := h_63.bd
    have hb_73 := h_64.bd
    refine ⟨rfl, ?_⟩
    refine ⟨fun _ => (held_le ⟨rfl, rfl, rfl, trivial⟩ hle_43 h0_7), ?_⟩
    refine A_one (i := 8) (by kernel_rfl) ?_
    refine AS_op rfl (op_buildSlice1 (cs := [.int .i64 ((f.chans.getD (i).toNat default).gain), .int .u8 (((f.chans.getD (i).toNat default).info).seq), .int .u8 (((f.chans.getD (i).toNat default).info).shape), .int .i64 (((f.chans.getD (i).toNat default).info).max), .slice A_46 ((((f.chans.getD (i).toNat default).info).groups).length) c_47, .slice A_48 (((f.chans.getD (i).toNat default).sections).length) c_49, .slice A_50 (((f.chans.getD (i).toNat default).steps).length) c_51, .slice A_52 (((f.chans.getD (i).toNat default).tns).length) c_53, .slice A_54 (((f.chans.getD (i).toNat default).lines).length) c_55]) (lt_of rfl) 105 rfl rfl el22 sz37 zr37 (by decide) (by decide) rfl fun g_74 => ?_)
    refine ⟨fun _ => (held_le ⟨rfl, rfl, rfl, trivial⟩ hle_43 h0_7), ?_⟩
    refine A_one (i := 9) (by kernel_rfl) ?_
    refine AS_op rfl (op_appendR (lt_of rfl) 104 (q2.mono (Im.minus_mono hle_43)) (RowOk.src (RowOk.lit1 (d := kGChan) (S := (S_42.minus S)) (x := f.chans.getD (i).toNat default) g_74 ⟨_, _, _, _, _, _, _, _, _, _, rfl, h_56, h_57, h_58, h_59, (h_60.mono (Im.minus_anti hle_4)), (h_61.mono (Im.minus_anti hle_4)), (h_62.mono (Im.minus_anti hle_4)), (h_63.mono (Im.minus_anti hle_4)), (h_64.mono (Im.minus_anti hle_4))⟩) 105 rfl) rfl rfl el22 sz37 zr37 rfl (by decide) bt37 rfl rfl (by first | omega | (simp only [List.length_append, List.length_cons, List.length_nil, List.length_take]; omega)) (by first | omega | (simp only [List.length_append, List.length_cons, List.length_nil, List.length_take]; omega)) fun A_75 c_76 cells_77 hro_78 => ?_)
    refine ⟨fun _ => (held_le ⟨rfl, rfl, rfl, trivial⟩ hle_43 h0_7), ?_⟩
    refine A_one (i := 10) (by kernel_rfl) ?_
    refine AS_op rfl (op_pv (lt_of rfl) (pv_fieldAddr rfl fl_26_0) ⟨(fun h => by cases h), ?_⟩)
    refine A_one (i := 11) (by kernel_rfl) ?_
    refine AS_op rfl (op_store_any (vs := [.slice A_75 (((f.chans.take (i).toNat) ++ [f.chans.getD (i).toNat default]).length) c_76]) (cs' := [.slice A_75 (((f.chans.take (i).toNat) ++ [f.chans.getD (i).toNat default]).length) c_76, .bool f.common, .int .i64 f.mask, .slice none 0 0, .slice none 0 0]) 103 rfl rfl rfl sz22 (by simp [Value.oneCell']) rfl (Nat.le_of_ble_eq_true rfl) rfl ?_)
    refine ⟨(fun h => by cases h), ?_⟩
    refine A_done (by kernel_rfl) ?_
    refine N_block ?_
    refine N_then ?_
    refine C_region rfl ?_
    refine T_pv rfl (pv_move rfl) ?_
    have hr_79 : InR .i64 (i + 1) := inR_i64 (by omega) (by omega)
    refine T_pv rfl (pv_add rfl rfl hr_79) ?_
    refine T_pv rfl (pv_assign rfl) ?_
    refine T_nil ?_
    rw [take_snoc (xs := f.chans) (by omega) (by omega)] at hro_78 ⊢
    refine N_next ((i + 1, S_42, A_75, c_76, cells_77)) ⟨(ImLe.trans hle_4 hle_43), ⟨by omega, by omega, hro_78⟩⟩ (by first | omega | (dsimp only; omega)) rfl ⟨rfl, rfl, rfl, rfl, trivial⟩ ⟨rfl, rfl, rfl, rfl, rfl, rfl, rfl, rfl, rfl, rfl, trivial⟩
  · -- decide (i < (f.chans.length : Int)) = false
    have hx_80 := of_decide_eq_false hb_5
    refine C_exit ?_
    refine X_then ?_
    refine X_loop ?_
    refine X_block ?_
    refine N_then ?_
    refine C_seq ?_
    refine C_seq ?_
    refine C_region rfl ?_
    refine T_pv rfl (pv_assign rfl) ?_
    refine T_nil ?_
    refine N_then ?_
    refine C_block ?_
    refine C_newNil 106 38 1 ?_
    refine C_loop (fun (x : Int × Im × (Option Addr) × Nat × (List Value)) => (x.2.1, [(101, .blk g_1 [.slice Af0 f.chans.length cf0, .bool f.common, .int .i64 f.mask, .slice Af3 f.bands.length cf3, .slice Af4 f.fill.length cf4] 26), (102, .blk g_2 [.slice none 0 0, .bool false, .int .i64 0, .slice none 0 0, .slice none 0 0] 26), (103, .blk g_3 [.slice Ai ((f.chans.take (i).toNat).length) ci, .bool f.common, .int .i64 f.mask, .slice x.2.2.1 ((f.bands.take (x.1).toNat).length) x.2.2.2.1, .slice none 0 0] 26), (104, .row (.slice Ai ((f.chans.take (i).toNat).length) ci) 37 9 ((f.chans.take (i).toNat).length) ei), (106, .row (.slice x.2.2.1 ((f.bands.take (x.1).toNat).length) x.2.2.2.1) 38 1 ((f.bands.take (x.1).toNat).length) x.2.2.2.2)], [(0, .agg #[.slice Af0 f.chans.length cf0, .bool f.common, .int .i64 f.mask, .slice Af3 f.bands.length cf3, .slice Af4 f.fill.length cf4]), (1, .pointer (some ⟨g_1, 0, none⟩)), (2, .pointer (some ⟨g_2, 0, none⟩)), (6, .pointer (some ⟨g_1, 1, none⟩)), (7, .bool f.common), (8, .pointer (some ⟨g_1, 2, none⟩)), (9, .int .i64 f.mask), (10, .agg #[.slice none 0 0, .bool f.common, .int .i64 f.mask, .slice none 0 0, .slice none 0 0]), (3, .pointer (some ⟨g_3, 0, none⟩)), (4, .int .i64 i), (11, .int .i64 i), (12, .pointer (some ⟨g_1, 0, none⟩)), (13, .slice Af0 f.chans.length cf0), (14, .int .i64 (f.chans.length : Int)), (15, .bool (decide (i < (f.chans.length : Int)))), (5, .int .i64 x.1)])) (fun (x : Int × Im × (Option Addr) × Nat × (List Value)) => ImLe T1 x.2.1 ∧ 0 ≤ x.1 ∧ x.1 ≤ f.bands.length ∧ RowOk (kSl kBool) (x.2.1.minus S) x.2.2.1 x.2.2.2.1 x.2.2.2.2 (f.bands.take (x.1).toNat)) (fun (x : Int × Im × (Option Addr) × Nat × (List Value)) => (f.bands.length - x.1).toNat) ((0, T1, none, 0, [])) ⟨(ImLe.refl _), ⟨by omega, by omega, RowOk.nil _ _⟩⟩ rfl ⟨rfl, rfl, rfl, rfl, rfl, trivial⟩ ⟨rfl, rfl, rfl, rfl, rfl, rfl, rfl, rfl, rfl, rfl, rfl, rfl, rfl, rfl, rfl, rfl, trivial⟩ ?_
    rintro ⟨k, T2, Ak, ck, ek⟩ ⟨hle_81, ⟨s0, s1, s2⟩⟩
    dsimp only at *
    refine C_seq ?_
    refine C_seq ?_
    refine C_region rfl ?_
    refine T_pv rfl (pv_move rfl) ?_
    refine T_pv rfl (pv_fieldAddr rfl fl_26_3) ?_
    refine T_pv rfl (pv_load rfl ag23 (Cell.blk 101 rfl rfl)) ?_
    refine T_pv rfl (pv_len rfl el23) ?_
    refine T_pv rfl (pv_lss rfl rfl) ?_
    refine T_nil ?_
    refine N_then ?_
    refine C_cond rfl (fun hb_82 => ?_) (fun hb_82 => ?_)
    · -- decide (k < (f.bands.length : Int)) = true
      have hx_83 := of_decide_eq_true hb_82
      refine C_skip ?_
      refine N_then ?_
      refine C_seq ?_
      refine C_block ?_
      refine C_drawS (T2) [(101, .blk g_1 [.slice Af0 f.chans.length cf0, .bool f.common, .int .i64 f.mask, .slice Af3 f.bands.length cf3, .slice Af4 f.fill.length cf4] 26), (102, .blk g_2 [.slice none 0 0, .bool false, .int .i64 0, .slice none 0 0, .slice none 0 0] 26), (103, .blk g_3 [.slice Ai ((f.chans.take (i).toNat).length) ci, .bool f.common, .int .i64 f.mask, .slice Ak ((f.bands.take (k).toNat).length) ck, .slice none 0 0] 26)] 10 (by kernel_rfl) rfl (fun h0_84 => ?_)
      refine A_take (i := 0) rfl (by kernel_rfl) (held_le ⟨rfl, rfl, rfl, trivial⟩ (ImLe.refl _) h0_84) rfl (pv_fieldAddr rfl fl_26_3) ?_
      refine A_take (i := 1) rfl (by kernel_rfl) (held_le ⟨rfl, rfl, rfl, trivial⟩ (ImLe.refl _) h0_84) rfl (pv_load rfl ag23 (Cell.blk 103 rfl rfl)) ?_
      refine A_take (i := 2) rfl (by kernel_rfl) (held_le ⟨rfl, rfl, rfl, trivial⟩ (ImLe.refl _) h0_84) rfl (pv_fieldAddr rfl fl_26_3) ?_
      refine A_take (i := 3) rfl (by kernel_rfl) (held_le ⟨rfl, rfl, rfl, trivial⟩ (ImLe.refl _) h0_84) rfl (pv_load rfl ag23 (Cell.blk 101 rfl rfl)) ?_
      refine A_take (i := 4) rfl (by kernel_rfl) (held_le ⟨rfl, rfl, rfl, trivial⟩ (ImLe.refl _) h0_84) rfl (pv_move rfl) ?_
      obtain ⟨us_85, hk_86, he_87⟩ := RdA.elt hf3 (i := k) (by omega) (by omega)
      obtain ⟨A_88, c_89, rfl, h_90⟩ := hk_86
      have hb_91 := h_90.bd
      refine A_take (i := 5) rfl (by kernel_rfl) (held_le ⟨rfl, rfl, rfl, trivial⟩ (ImLe.refl _) h0_84) rfl (pv_idx hf3 rfl rfl el23 sz38 (by omega) (by omega)) ?_
      refine A_take (i := 6) rfl (by kernel_rfl) (held_le ⟨rfl, rfl, rfl, trivial⟩ (ImLe.refl _) h0_84) rfl (pv_load rfl ag38 ((he_87 _ _ (ImLe.trans hle_4 hle_81)).zero rfl)) ?_
      refine A_newNil 107 4 1 ?_
      refine A_one (i := 7) (by kernel_rfl) ?_
      have zz : _ ≤ 2000 := z4.at_ (i := k) (by omega) (by omega)
      obtain ⟨news_96, hs_97⟩ := RdA.src (h_90.mono (ImLe.trans hle_4 hle_81))
      refine AS_op rfl (op_appendR0 (lt_of rfl) 107 (RowOk.any (S' := (T2.minus S)) (fun _ _ _ _ h => h) (RowOk.nil kBool T2)) (Src.any (fun _ _ _ _ h => h) (hs_97 _ _ (ImLe.refl _))) rfl rfl el38 sz4 zr4 rfl (by decide) bt4 rfl rfl (by first | omega | (simp only [List.length_append, List.length_cons, List.length_nil, List.length_take]; omega)) (by first | omega | (simp only [List.length_append, List.length_cons, List.length_nil, List.length_take]; omega)) fun A_92 c_93 cells_94 hro_95 => ?_)
      refine ⟨fun _ => (held_le ⟨rfl, rfl, rfl, trivial⟩ (ImLe.refl _) h0_84), ?_⟩
      refine A_freezeRow 107 rfl (fun S_98 hle_99 hz_100 => ?_)
      have hf_102 : RdA kBool (S_98.minus S) A_92 c_93 (f.bands.getD (k).toNat default) := (hz_100 _ (ImLe.trans hle_4 hle_81) kBool _ rfl hro_95.len ((hro_95.mono (Im.minus_mono hle_99)).rd))
      refine A_one (i := 8) (by kernel_rfl) ?_
      refine AS_op rfl (op_buildSlice1 (cs := [.slice A_92 ((f.bands.getD (k).toNat default).length) c_93]) (lt_of rfl) 108 rfl rfl el23 sz38 zr38 (by decide) (by decide) rfl fun g_103 => ?_)
      refine ⟨fun _ => (held_le ⟨rfl, rfl, rfl, trivial⟩ hle_99 h0_84), ?_⟩
      refine A_one (i := 9) (by kernel_rfl) ?_
      refine AS_op rfl (op_appendR (lt_of rfl) 106 (s2.mono (Im.minus_mono hle_99)) (RowOk.src (RowOk.lit1 (d := (kSl kBool)) (S := (S_98.minus S)) (x := (f.bands.getD (k).toNat default)) g_103 ⟨_, _, rfl, hf_102⟩) 108 rfl) rfl rfl el23 sz38 zr38 rfl (by decide) bt38 rfl rfl (by first | omega | (simp only [List.length_append, List.length_cons, List.length_nil, List.length_take]; omega)) (by first | omega | (simp only [List.length_append, List.length_cons, List.length_nil, List.length_take]; omega)) fun A_104 c_105 cells_106 hro_107 => ?_)
      refine ⟨fun _ => (held_le ⟨rfl, rfl, rfl, trivial⟩ hle_99 h0_84), ?_⟩
      refine A_one (i := 10) (by kernel_rfl) ?_
      refine AS_op rfl (op_pv (lt_of rfl) (pv_fieldAddr rfl fl_26_3) ⟨(fun h => by cases h), ?_⟩)
      refine A_one (i := 11) (by kernel_rfl) ?_
      refine AS_op rfl (op_store_any (vs := [.slice A_104 (((f.bands.take (k).toNat) ++ [(f.bands.getD (k).toNat default)]).length) c_105]) (cs' := [.slice Ai ((f.chans.take (i).toNat).length) ci, .bool f.common, .int .i64 f.mask, .slice A_104 (((f.bands.take (k).toNat) ++ [(f.bands.getD (k).toNat default)]).length) c_105, .slice none 0 0]) 103 rfl rfl rfl sz23 (by simp [Value.oneCell']) rfl (Nat.le_of_ble_eq_true rfl) rfl ?_)
      refine ⟨(fun h => by cases h), ?_⟩
      refine A_done (by kernel_rfl) ?_
      refine N_block ?_
      refine N_then ?_
      refine C_region rfl ?_
      refine T_pv rfl (pv_move rfl) ?_
      have hr_108 : InR .i64 (k + 1) := inR_i64 (by omega) (by omega)
      refine T_pv rfl (pv_add rfl rfl hr_108) ?_
      refine T_pv rfl (pv_assign rfl) ?_
      refine T_nil ?_
      rw [take_snoc (xs := f.bands) (by omega) (by omega)] at hro_107 ⊢
      refine N_next ((k + 1, S_98, A_104, c_105, cells_106)) ⟨(ImLe.trans hle_81 hle_99), ⟨by omega, by omega, hro_107⟩⟩ (by first | omega | (dsimp only; omega)) rfl ⟨rfl, rfl, rfl, rfl, rfl, trivial⟩ ⟨rfl, rfl, rfl, rfl, rfl, rfl, rfl, rfl, rfl, rfl, rfl, rfl, rfl, rfl, rfl, rfl, trivial⟩
    · -- decide (k < (f.bands.length : Int)) = false
      have hx_109 := of_decide_eq_false hb_82
      refine C_exit ?_
      refine X_then ?_
      refine X_loop ?_
      refine X_block ?_
      refine N_then ?_
      refine C_seq ?_
      refine C_region rfl ?_
      refine T_pv rfl (pv_fieldAddr rfl fl_26_4) ?_
      refine T_pv rfl (pv_load rfl ag24 (Cell.blk 103 rfl rfl)) ?_
      refine T_pv rfl (pv_fieldAddr rfl fl_26_4) ?_
      refine T_pv rfl (pv_load rfl ag24 (Cell.blk 101 rfl rfl)) ?_
      refine T_newNil 109 5 1 ?_
      obtain ⟨news_114, hs_115⟩ := RdA.src (hf4.mono (ImLe.trans hle_4 hle_81))
      refine T_cons (op_appendR0 (lt_of rfl) 109 (RowOk.any (S' := (T2.minus S)) (fun _ _ _ _ h => h) (RowOk.nil (kInt .u8) T2)) (Src.any (fun _ _ _ _ h => h) (hs_115 _ _ (ImLe.refl _))) rfl rfl el24 sz5 zr5 rfl (by decide) bt5 rfl rfl (by first | omega | (simp only [List.length_append, List.length_cons, List.length_nil, List.length_take]; omega)) (by first | omega | (simp only [List.length_append, List.length_cons, List.length_nil, List.length_take]; omega)) fun A_110 c_111 cells_112 hro_113 => ?_)
      refine T_pv rfl (pv_fieldAddr rfl fl_26_4) ?_
      refine T_cons (op_store_any (vs := [.slice A_110 f.fill.length c_111]) (cs' := [.slice Ai ((f.chans.take (i).toNat).length) ci, .bool f.common, .int .i64 f.mask, .slice Ak ((f.bands.take (k).toNat).length) ck, .slice A_110 f.fill.length c_111]) 103 rfl rfl rfl sz24 (by simp [Value.oneCell']) rfl (Nat.le_of_ble_eq_true rfl) rfl ?_)
      refine T_nil ?_
      refine N_then ?_
      refine C_seq ?_
      refine C_region rfl ?_
      refine T_pv rfl (pv_load_agg (cs := [.slice Ai ((f.chans.take (i).toNat).length) ci, .bool f.common, .int .i64 f.mask, .slice Ak ((f.bands.take (k).toNat).length) ck, .slice A_110 f.fill.length c_111]) rfl ag26 sz26 rfl ⟨Cell.blk 103 rfl rfl, Cell.blk 103 rfl rfl, Cell.blk 103 rfl rfl, Cell.blk 103 rfl rfl, Cell.blk 103 rfl rfl, trivial⟩) ?_
      refine T_cons (op_store_any (vs := [.slice Ai ((f.chans.take (i).toNat).length) ci, .bool f.common, .int .i64 f.mask, .slice Ak ((f.bands.take (k).toNat).length) ck, .slice A_110 f.fill.length c_111]) (cs' := [.slice Ai ((f.chans.take (i).toNat).length) ci, .bool f.common, .int .i64 f.mask, .slice Ak ((f.bands.take (k).toNat).length) ck, .slice A_110 f.fill.length c_111]) 102 rfl rfl rfl sz26 (by simp [Value.oneCell']) rfl (Nat.le_of_ble_eq_true rfl) rfl ?_)
      refine T_nil ?_
      refine N_then ?_
      refine C_ret0 ?_
      -- ret 0: .agg #[.slice Ai ((f.chans.take (i).toNat).length) ci, .bool f.common, .int .i64 f.mask, .slice Ak ((f.bands.take (k).toNat).length) ck, .slice A_110 f.fill.length c_111]
      refine G_freeze 104 rfl (fun S_116 hle_117 hz_118 => ?_)
      have hf_120 : RdA kGChan (S_116.minus S) Ai ci (f.chans.take (i).toNat) := (hz_118 _ (ImLe.trans hle_4 hle_81) kGChan _ rfl q2.len (((q2.mono (Im.minus_mono hle_81)).mono (Im.minus_mono hle_117)).rd))
      refine G_freeze 106 rfl (fun S_121 hle_122 hz_123 => ?_)
      have hf_125 : RdA (kSl kBool) (S_121.minus S) Ak ck (f.bands.take (k).toNat) := (hz_123 _ (ImLe.trans (ImLe.trans hle_4 hle_81) hle_117) (kSl kBool) _ rfl s2.len (((s2.mono (Im.minus_mono hle_117)).mono (Im.minus_mono hle_122)).rd))
      refine G_freeze 109 rfl (fun S_126 hle_127 hz_128 => ?_)
      have hf_130 : RdA (kInt .u8) (S_126.minus S) A_110 c_111 f.fill := (hz_128 _ (ImLe.trans (ImLe.trans (ImLe.trans hle_4 hle_81) hle_117) hle_122) (kInt .u8) _ rfl hro_113.len (((hro_113.mono (Im.minus_mono (ImLe.trans hle_117 hle_122))).mono (Im.minus_mono hle_127)).rd))
      refine Q_ret (vs := [.agg #[.slice Ai ((f.chans.take (i).toNat).length) ci, .bool f.common, .int .i64 f.mask, .slice Ak ((f.bands.take (k).toNat).length) ck, .slice A_110 f.fill.length c_111]]) ⟨⟨_, rfl, .inr ⟨[.slice Ai ((f.chans.take (i).toNat).length) ci, .bool f.common, .int .i64 f.mask, .slice Ak ((f.bands.take (k).toNat).length) ck, .slice A_110 f.fill.length c_111], rfl, ag26, sz26, ⟨Cell.blk 102 rfl rfl, Cell.blk 102 rfl rfl, Cell.blk 102 rfl rfl, Cell.blk 102 rfl rfl, Cell.blk 102 rfl rfl, trivial⟩, rfl⟩⟩, trivial⟩ (L' := []) [] trivial (by simp) (by decide) (⟨_, (⟨(f.chans.take (i).toNat), f.common, f.mask, (f.bands.take (k).toNat), f.fill⟩ : GFrame), rfl, rfl, ?_, ⟨_, _, _, _, _, _, rfl, (hf_120.mono (Im.minus_mono (ImLe.trans hle_122 hle_127))), hf2, (hf_125.mono (Im.minus_mono hle_127)), hf_130⟩⟩)
      · rw [GFrame.eq_iff]; exact ⟨(take_all (by omega)).symm, rfl, rfl, (take_all (by omega)).symm, rfl⟩

end Go.Proofs.Ythamgiecgilmdaa
