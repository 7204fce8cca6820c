/- Walks, printed by wip/tool/walk2.py. -/
import Derived.Test.YthamgiecgilmdaaSf
namespace Go.Proofs.Ythamgiecgilmdaa
open Go Go.RowKit

set_option maxRecDepth 100000 in
theorem f_raw_Twin (S : Im) (f : GFrame) (Af0 : Option Addr) (cf0 : Nat) (hf0 : RdA kGChan S Af0 cf0 f.chans) (hf2 : InR .i64 f.mask) (Af3 : Option Addr) (cf3 : Nat) (hf3 : RdA (kSl kBool) S Af3 cf3 f.bands) (Af4 : Option Addr) (cf4 : Nat) (hf4 : RdA (kInt .u8) S Af4 cf4 f.fill) (p0 : GFrame.small f) : Fn Try.prog 5 [.agg #[.slice Af0 f.chans.length cf0, .bool f.common, .int .i64 f.mask, .slice Af3 f.bands.length cf3, .slice Af4 f.fill.length cf4]] S [] fun v S' L' => ∃ (ur0 : List Value) (r0 : GFrame), v = .agg ur0.toArray ∧ L' = [] ∧ f = r0 ∧ kGFrame.K S' ur0 r0 ∧ (∃ A cc, ur0[0]? = some (Value.slice A f.chans.length cc) ∧ RdA kChanT (S'.minus S) A cc (f.chans.map tl)) ∧ (∃ A cc, ur0[3]? = some (Value.slice A f.bands.length cc) ∧ RdA (kSl kBool) (S'.minus S) A cc f.bands) ∧ (∃ A cc, ur0[4]? = some (Value.slice A f.fill.length cc) ∧ RdA (kInt .u8) (S'.minus S) A cc f.fill) := by
  have hb_f0 := hf0.bd
  have hb_f2 := InR.i64 hf2
  have hb_f3 := hf3.bd
  have hb_f4 := hf4.bd
  have z1 := p0.chans; have z2 := p0.chan1; have z3 := p0.bands; have z4 := p0.band1; have z5 := p0.fill
  refine Fn_intro 52 Try.func5 rfl rfl rfl fun w0 => ?_
  refine C_seq ?_
  refine C_region rfl ?_
  refine T_cons (op_box (cs := [.slice Af0 f.chans.length cf0, .bool f.common, .int .i64 f.mask, .slice Af3 f.bands.length cf3, .slice Af4 f.fill.length cf4]) (lt_of rfl) 101 rfl rfl fun g_1 => ?_)
  refine T_cons (op_alloc (cs := [.slice none 0 0, .bool false, .int .i64 0, .slice none 0 0, .slice none 0 0]) (lt_of rfl) 102 zr26 rfl fun g_2 => ?_)
  refine T_nil ?_
  refine N_then ?_
  refine C_seq ?_
  refine C_drawS (S) [(101, .blk g_1 [.slice Af0 f.chans.length cf0, .bool f.common, .int .i64 f.mask, .slice Af3 f.bands.length cf3, .slice Af4 f.fill.length cf4] 26), (102, .blk g_2 [.slice none 0 0, .bool false, .int .i64 0, .slice none 0 0, .slice none 0 0] 26)] 9 (by kernel_rfl) rfl (fun h0_3 => ?_)
  refine A_take (i := 0) rfl (by kernel_rfl) (held_le ⟨rfl, rfl, trivial⟩ (ImLe.refl _) h0_3) rfl (pv_fieldAddr rfl fl_26_0) ?_
  refine A_take (i := 1) rfl (by kernel_rfl) (held_le ⟨rfl, rfl, trivial⟩ (ImLe.refl _) h0_3) rfl (pv_load rfl ag22 (Cell.blk 101 rfl rfl)) ?_
  refine A_take (i := 3) rfl (by kernel_rfl) (held_le ⟨rfl, rfl, trivial⟩ (ImLe.refl _) h0_3) rfl (pv_fieldAddr rfl fl_26_3) ?_
  refine A_take (i := 4) rfl (by kernel_rfl) (held_le ⟨rfl, rfl, trivial⟩ (ImLe.refl _) h0_3) rfl (pv_load rfl ag23 (Cell.blk 101 rfl rfl)) ?_
  refine A_take (i := 6) rfl (by kernel_rfl) (held_le ⟨rfl, rfl, trivial⟩ (ImLe.refl _) h0_3) rfl (pv_fieldAddr rfl fl_26_4) ?_
  refine A_take (i := 7) rfl (by kernel_rfl) (held_le ⟨rfl, rfl, trivial⟩ (ImLe.refl _) h0_3) rfl (pv_load rfl ag24 (Cell.blk 101 rfl rfl)) ?_
  refine A_one (i := 2) (by kernel_rfl) ?_
  refine AS_op rfl (op_call (fun _ h => by cases h; exact lt_of rfl) rfl rfl rfl en10 (f_CloneC _ _ _ f.chans hf0 (by omega)) [103] trivial (by simp) (by decide) ?_)
  rintro v_11 S_9 L_12 ⟨A_4, c_5, r_6, cells_7, rfl, rfl, rfl, rfl, h_8⟩ hle_10
  have hb_13 := h_8.bd
  refine ⟨rfl, ?_⟩
  refine ⟨fun _ => (held_le ⟨rfl, rfl, trivial⟩ (ImLe.refl _) h0_3), ?_⟩
  refine A_two (i := 5) (j := 9) (by kernel_rfl) ?_ ?_
  · -- number 5
    refine AS_op rfl (op_call (fun _ h => by cases h; exact lt_of rfl) rfl rfl rfl en11 (f_CloneLB _ _ _ f.bands hf3 (by omega)) [104] trivial (by simp) (by decide) ?_)
    rintro v_21 S_19 L_22 ⟨A_14, c_15, r_16, cells_17, rfl, rfl, rfl, rfl, h_18⟩ hle_20
    have hb_23 := h_18.bd
    refine ⟨rfl, ?_⟩
    refine ⟨fun _ => (held_le ⟨rfl, rfl, trivial⟩ (ImLe.refl _) h0_3), ?_⟩
    refine A_two (i := 8) (j := 9) (by kernel_rfl) ?_ ?_
    · -- number 8
      refine AS_op rfl (op_call (fun _ h => by cases h; exact lt_of rfl) rfl rfl rfl en12 (f_CloneB _ _ _ f.fill hf4 (by omega)) [105] trivial (by simp) (by decide) ?_)
      rintro v_31 S_29 L_32 ⟨A_24, c_25, r_26, cells_27, rfl, rfl, rfl, rfl, h_28⟩ hle_30
      have hb_33 := h_28.bd
      refine ⟨rfl, ?_⟩
      refine ⟨fun _ => (held_le ⟨rfl, rfl, trivial⟩ (ImLe.refl _) h0_3), ?_⟩
      refine A_one (i := 9) (by kernel_rfl) ?_
      refine AS_op rfl (op_pv (lt_of rfl) (pv_fieldAddr rfl fl_26_0) ⟨(fun h => by cases h), ?_⟩)
      refine A_one (i := 10) (by kernel_rfl) ?_
      refine AS_op rfl (op_store_any (vs := [.slice A_4 f.chans.length c_5]) (cs' := [.slice A_4 f.chans.length c_5, .bool f.common, .int .i64 f.mask, .slice Af3 f.bands.length cf3, .slice Af4 f.fill.length cf4]) 101 rfl rfl rfl sz22 (by simp [Value.oneCell']) rfl (Nat.le_of_ble_eq_true rfl) rfl ?_)
      refine ⟨(fun h => by cases h), ?_⟩
      refine A_one (i := 11) (by kernel_rfl) ?_
      refine AS_op rfl (op_pv (lt_of rfl) (pv_fieldAddr rfl fl_26_3) ⟨(fun h => by cases h), ?_⟩)
      refine A_one (i := 12) (by kernel_rfl) ?_
      refine AS_op rfl (op_store_any (vs := [.slice A_14 f.bands.length c_15]) (cs' := [.slice A_4 f.chans.length c_5, .bool f.common, .int .i64 f.mask, .slice A_14 f.bands.length c_15, .slice Af4 f.fill.length cf4]) 101 rfl rfl rfl sz23 (by simp [Value.oneCell']) rfl (Nat.le_of_ble_eq_true rfl) rfl ?_)
      refine ⟨(fun h => by cases h), ?_⟩
      refine A_one (i := 13) (by kernel_rfl) ?_
      refine AS_op rfl (op_pv (lt_of rfl) (pv_fieldAddr rfl fl_26_4) ⟨(fun h => by cases h), ?_⟩)
      refine A_one (i := 14) (by kernel_rfl) ?_
      refine AS_op rfl (op_store_any (vs := [.slice A_24 f.fill.length c_25]) (cs' := [.slice A_4 f.chans.length c_5, .bool f.common, .int .i64 f.mask, .slice A_14 f.bands.length c_15, .slice A_24 f.fill.length c_25]) 101 rfl rfl rfl sz24 (by simp [Value.oneCell']) rfl (Nat.le_of_ble_eq_true rfl) rfl ?_)
      refine ⟨(fun h => by cases h), ?_⟩
      refine A_done (by kernel_rfl) ?_
      refine N_then ?_
      refine C_seq ?_
      refine C_seq ?_
      refine C_region rfl ?_
      refine T_pv rfl (pv_fieldAddr rfl fl_26_0) ?_
      refine T_pv rfl (pv_load rfl ag22 (Cell.blk 101 rfl rfl)) ?_
      refine T_pv rfl (pv_len rfl el22) ?_
      refine T_pv rfl (pv_move rfl) ?_
      refine T_nil ?_
      refine N_then ?_
      refine C_block ?_
      refine C_loop (fun (x : Int × Im × (List Value)) => (x.2.1, [(101, .blk g_1 [.slice A_4 f.chans.length c_5, .bool f.common, .int .i64 f.mask, .slice A_14 f.bands.length c_15, .slice A_24 f.fill.length c_25] 26), (102, .blk g_2 [.slice none 0 0, .bool false, .int .i64 0, .slice none 0 0, .slice none 0 0] 26), (103, .row (.slice A_4 f.chans.length c_5) 37 9 f.chans.length x.2.2), (104, .row (.slice A_14 f.bands.length c_15) 38 1 f.bands.length cells_17), (105, .row (.slice A_24 f.fill.length c_25) 5 1 f.fill.length cells_27)], [(0, .agg #[.slice Af0 f.chans.length cf0, .bool f.common, .int .i64 f.mask, .slice Af3 f.bands.length cf3, .slice Af4 f.fill.length cf4]), (1, .pointer (some ⟨g_1, 0, none⟩)), (2, .pointer (some ⟨g_2, 0, none⟩)), (5, .pointer (some ⟨g_1, 0, none⟩)), (6, .slice Af0 f.chans.length cf0), (8, .pointer (some ⟨g_1, 3, none⟩)), (9, .slice Af3 f.bands.length cf3), (11, .pointer (some ⟨g_1, 4, none⟩)), (12, .slice Af4 f.fill.length cf4), (7, .slice A_4 f.chans.length c_5), (10, .slice A_14 f.bands.length c_15), (13, .slice A_24 f.fill.length c_25), (14, .pointer (some ⟨g_1, 0, none⟩)), (15, .pointer (some ⟨g_1, 3, none⟩)), (16, .pointer (some ⟨g_1, 4, none⟩)), (17, .pointer (some ⟨g_1, 0, none⟩)), (18, .slice A_4 f.chans.length c_5), (19, .int .i64 (f.chans.length : Int)), (20, .int .i64 x.1)])) (fun (x : Int × Im × (List Value)) => ImLe S x.2.1 ∧ 0 ≤ x.1 ∧ x.1 ≤ f.chans.length ∧ RowOk kGChan x.2.1 A_4 c_5 x.2.2 f.chans ∧ RdL kChanT (x.2.1.minus S) (x.2.2.take ((x.1).toNat * 9)) ((f.chans.map tl).take (x.1).toNat)) (fun (x : Int × Im × (List Value)) => (f.chans.length - x.1).toNat) ((0, S, cells_7)) ⟨(ImLe.refl _), ⟨by omega, by omega, h_8, by simp [RdL]⟩⟩ rfl ⟨rfl, rfl, rfl, rfl, rfl, trivial⟩ ⟨rfl, rfl, rfl, rfl, rfl, rfl, rfl, rfl, rfl, rfl, rfl, rfl, rfl, rfl, rfl, rfl, rfl, rfl, rfl, trivial⟩ ?_
      rintro ⟨i, T1, ei⟩ ⟨hle_34, ⟨q0, q1, q2, q3⟩⟩
      dsimp only at *
      refine C_seq ?_
      refine C_region rfl ?_
      refine T_pv rfl (pv_lss rfl rfl) ?_
      refine T_nil ?_
      refine N_then ?_
      refine C_seq ?_
      refine C_cond rfl (fun hb_35 => ?_) (fun hb_35 => ?_)
      · -- decide (i < (f.chans.length : Int)) = true
        have hx_36 := of_decide_eq_true hb_35
        refine C_skip ?_
        refine N_then ?_
        refine C_seq ?_
        refine C_block ?_
        refine C_seq ?_
        refine C_region rfl ?_
        refine T_pv rfl (pv_move rfl) ?_
        refine T_pv rfl (pv_assign rfl) ?_
        refine T_nil ?_
        refine N_then ?_
        refine C_drawS (T1) [(101, .blk g_1 [.slice A_4 f.chans.length c_5, .bool f.common, .int .i64 f.mask, .slice A_14 f.bands.length c_15, .slice A_24 f.fill.length c_25] 26), (102, .blk g_2 [.slice none 0 0, .bool false, .int .i64 0, .slice none 0 0, .slice none 0 0] 26), (103, .row (.slice A_4 f.chans.length c_5) 37 9 f.chans.length ei), (104, .row (.slice A_14 f.bands.length c_15) 38 1 f.bands.length cells_17), (105, .row (.slice A_24 f.fill.length c_25) 5 1 f.fill.length cells_27)] 9 (by kernel_rfl) rfl (fun h0_37 => ?_)
        refine A_take (i := 0) rfl (by kernel_rfl) (held_le ⟨rfl, rfl, rfl, rfl, rfl, trivial⟩ (ImLe.refl _) h0_37) rfl (pv_fieldAddr rfl fl_26_0) ?_
        refine A_take (i := 1) rfl (by kernel_rfl) (held_le ⟨rfl, rfl, rfl, rfl, rfl, trivial⟩ (ImLe.refl _) h0_37) rfl (pv_load rfl ag22 (Cell.blk 101 rfl rfl)) ?_
        refine A_take (i := 2) rfl (by kernel_rfl) (held_le ⟨rfl, rfl, rfl, rfl, rfl, trivial⟩ (ImLe.refl _) h0_37) rfl (pv_move rfl) ?_
        refine A_take (i := 3) rfl (by kernel_rfl) (held_le ⟨rfl, rfl, rfl, rfl, rfl, trivial⟩ (ImLe.refl _) h0_37) rfl (pv_fieldAddr rfl fl_26_0) ?_
        refine A_take (i := 4) rfl (by kernel_rfl) (held_le ⟨rfl, rfl, rfl, rfl, rfl, trivial⟩ (ImLe.refl _) h0_37) rfl (pv_load rfl ag22 (Cell.blk 101 rfl rfl)) ?_
        refine A_take (i := 5) rfl (by kernel_rfl) (held_le ⟨rfl, rfl, rfl, rfl, rfl, trivial⟩ (ImLe.refl _) h0_37) rfl (pv_move rfl) ?_
        obtain ⟨us_38, hk_39, hcut_41, he_40⟩ := RowOk.elt q2 (i := i) (by omega) (by omega)
        clear hcut_41
        obtain ⟨A_42, c_43, A_44, c_45, A_46, c_47, A_48, c_49, A_50, c_51, rfl, h_52, h_53, h_54, h_55, h_56, h_57, h_58, h_59, h_60⟩ := hk_39
        have hq_61 := InR.i64 h_52
        have hq_62 := InR.u8 h_53
        have hq_63 := InR.u8 h_54
        have hq_64 := InR.i64 h_55
        have hb_65 := h_56.bd
        have hb_66 := h_57.bd
        have hb_67 := h_58.bd
        have hb_68 := h_59.bd
        have hb_69 := h_60.bd
        refine A_take (i := 6) rfl (by kernel_rfl) (held_le ⟨rfl, rfl, rfl, rfl, rfl, trivial⟩ (ImLe.refl _) h0_37) rfl (pv_idxrow q2 rfl rfl el22 sz37 (by omega) (by omega)) ?_
        refine A_take (i := 7) rfl (by kernel_rfl) (held_le ⟨rfl, rfl, rfl, rfl, rfl, trivial⟩ (ImLe.refl _) h0_37) rfl (pv_load_aggE (cs := [.int .i64 ((f.chans.getD (i).toNat default).gain), .int .u8 (((f.chans.getD (i).toNat default).info).seq), .int .u8 (((f.chans.getD (i).toNat default).info).shape), .int .i64 (((f.chans.getD (i).toNat default).info).max), .slice A_42 ((((f.chans.getD (i).toNat default).info).groups).length) c_43, .slice A_44 (((f.chans.getD (i).toNat default).sections).length) c_45, .slice A_46 (((f.chans.getD (i).toNat default).steps).length) c_47, .slice A_48 (((f.chans.getD (i).toNat default).tns).length) c_49, .slice A_50 (((f.chans.getD (i).toNat default).lines).length) c_51]) rfl ag37 sz37 (he_40 _ _ 103 _ _ rfl)) ?_
        refine A_one (i := 8) (by kernel_rfl) ?_
        have zz : GChan.small _ := z2.at_ (i := i) (by omega) (by omega)
        refine AS_op rfl (op_call (fun _ h => by cases h; exact lt_of rfl) rfl rfl rfl en13 (f_lane_Twin _ (f.chans.getD (i).toNat default) h_52 h_53 h_54 h_55 _ _ h_56 _ _ h_57 _ _ h_58 _ _ h_59 _ _ h_60 zz) [] trivial (by simp) (by decide) ?_)
        rintro v_76 S_74 L_77 ⟨us_70, r_71, rfl, rfl, rfl, h_72, hf_73⟩ hle_75
        obtain ⟨A_78, c_79, A_80, c_81, A_82, c_83, A_84, c_85, A_86, c_87, rfl, h_88, h_89, h_90, h_91, h_92, h_93, h_94, h_95, h_96⟩ := h_72
        have hq_97 := InR.i64 h_88
        have hq_98 := InR.u8 h_89
        have hq_99 := InR.u8 h_90
        have hq_100 := InR.i64 h_91
        have hb_101 := h_92.bd
        have hb_102 := h_93.bd
        have hb_103 := h_94.bd
        have hb_104 := h_95.bd
        have hb_105 := h_96.bd
        refine ⟨rfl, ?_⟩
        refine ⟨fun _ => (held_le ⟨rfl, rfl, rfl, rfl, rfl, trivial⟩ hle_75 h0_37), ?_⟩
        refine A_one (i := 9) (by kernel_rfl) ?_
        refine AS_op rfl (op_pv (lt_of rfl) (pv_idxrow q2 rfl rfl el22 sz37 (by omega) (by omega)) ⟨(fun h => by cases h), ?_⟩)
        refine A_one (i := 10) (by kernel_rfl) ?_
        obtain ⟨A9, c9, e9, h9⟩ := hf_73
        simp only [List.getElem?_cons_succ, List.getElem?_cons_zero, Option.some.injEq, Value.slice.injEq, true_and] at e9
        obtain ⟨rfl, rfl⟩ := e9
        have hro_107 : RowOk kGChan S_74 A_4 c_5 (putc ei ((i).toNat * 9) [.int .i64 ((f.chans.getD (i).toNat default).gain), .int .u8 (((f.chans.getD (i).toNat default).info).seq), .int .u8 (((f.chans.getD (i).toNat default).info).shape), .int .i64 (((f.chans.getD (i).toNat default).info).max), .slice A_78 ((((f.chans.getD (i).toNat default).info).groups).length) c_79, .slice A_80 (((f.chans.getD (i).toNat default).sections).length) c_81, .slice A_82 (((f.chans.getD (i).toNat default).steps).length) c_83, .slice A_84 (((f.chans.getD (i).toNat default).tns).length) c_85, .slice A_86 (((f.chans.getD (i).toNat default).lines).length) c_87]) (f.chans.set (i).toNat (f.chans.getD (i).toNat default)) := RowOk.put (q2.mono hle_75) ⟨_, _, _, _, _, _, _, _, _, _, rfl, h_88, h_89, h_90, h_91, h_92, h_93, h_94, h_95, h_96⟩ (by omega) (by omega)
        have hfit_108 : (i).toNat * 9 + 9 ≤ (ei).length := by rw [q2.len]; show _ ≤ _ * 9; omega
        refine AS_op rfl (op_storeR (vs := [.int .i64 ((f.chans.getD (i).toNat default).gain), .int .u8 (((f.chans.getD (i).toNat default).info).seq), .int .u8 (((f.chans.getD (i).toNat default).info).shape), .int .i64 (((f.chans.getD (i).toNat default).info).max), .slice A_78 ((((f.chans.getD (i).toNat default).info).groups).length) c_79, .slice A_80 (((f.chans.getD (i).toNat default).sections).length) c_81, .slice A_82 (((f.chans.getD (i).toNat default).steps).length) c_83, .slice A_84 (((f.chans.getD (i).toNat default).tns).length) c_85, .slice A_86 (((f.chans.getD (i).toNat default).lines).length) c_87]) 103 q2.pl rfl rfl rfl sz37 (by simp [Value.oneCell']) rfl (by omega) hfit_108 ?_)
        refine ⟨(fun h => by cases h), ?_⟩
        refine A_done (by kernel_rfl) ?_
        refine N_block ?_
        refine N_then ?_
        refine C_region rfl ?_
        have hr_109 : InR .i64 (i + 1) := inR_i64 (by omega) (by omega)
        refine T_pv rfl (pv_add rfl rfl hr_109) ?_
        refine T_pv rfl (pv_move rfl) ?_
        refine T_nil ?_
        refine N_next ((i + 1, S_74, putc ei ((i).toNat * 9) [.int .i64 ((f.chans.getD (i).toNat default).gain), .int .u8 (((f.chans.getD (i).toNat default).info).seq), .int .u8 (((f.chans.getD (i).toNat default).info).shape), .int .i64 (((f.chans.getD (i).toNat default).info).max), .slice A_78 ((((f.chans.getD (i).toNat default).info).groups).length) c_79, .slice A_80 (((f.chans.getD (i).toNat default).sections).length) c_81, .slice A_82 (((f.chans.getD (i).toNat default).steps).length) c_83, .slice A_84 (((f.chans.getD (i).toNat default).tns).length) c_85, .slice A_86 (((f.chans.getD (i).toNat default).lines).length) c_87])) ⟨(ImLe.trans hle_34 hle_75), ⟨by omega, by omega, RowOk.putsame hro_107 (by omega) (by omega), RdL.pre (d := kChanT) (RdL.mono (Im.minus_mono hle_75) q3) (by rw [q2.len, List.length_map]; rfl) ⟨_, [.int .u8 (((f.chans.getD (i).toNat default).info).seq), .int .u8 (((f.chans.getD (i).toNat default).info).shape), .int .i64 (((f.chans.getD (i).toNat default).info).max), .slice A_78 ((((f.chans.getD (i).toNat default).info).groups).length) c_79, .slice A_80 (((f.chans.getD (i).toNat default).sections).length) c_81, .slice A_82 (((f.chans.getD (i).toNat default).steps).length) c_83, .slice A_84 (((f.chans.getD (i).toNat default).tns).length) c_85], _, _, by rw [map_tl (by omega) (by omega), tl, shp_length]; rfl, h_88, rfl, by simp [Value.oneCell'], by rw [map_tl (by omega) (by omega), tl]; exact RdA.anyI (h9.mono (Im.minus_anti hle_34))⟩ (by omega) (by rw [List.length_map]; omega)⟩⟩ (by first | omega | (dsimp only; omega)) rfl ⟨rfl, rfl, rfl, rfl, rfl, trivial⟩ ⟨rfl, rfl, rfl, rfl, rfl, rfl, rfl, rfl, rfl, rfl, rfl, rfl, rfl, rfl, rfl, rfl, rfl, rfl, rfl, trivial⟩
      · -- decide (i < (f.chans.length : Int)) = false
        have hx_110 := of_decide_eq_false hb_35
        refine C_exit ?_
        refine X_then ?_
        refine X_loop ?_
        refine X_block ?_
        refine N_then ?_
        refine C_seq ?_
        refine C_seq ?_
        refine C_region rfl ?_
        refine T_pv rfl (pv_fieldAddr rfl fl_26_3) ?_
        refine T_pv rfl (pv_load rfl ag23 (Cell.blk 101 rfl rfl)) ?_
        refine T_pv rfl (pv_len rfl el23) ?_
        refine T_pv rfl (pv_move rfl) ?_
        refine T_nil ?_
        refine N_then ?_
        refine C_block ?_
        refine C_loop (fun (x : Int × Im × (List Value)) => (x.2.1, [(101, .blk g_1 [.slice A_4 f.chans.length c_5, .bool f.common, .int .i64 f.mask, .slice A_14 f.bands.length c_15, .slice A_24 f.fill.length c_25] 26), (102, .blk g_2 [.slice none 0 0, .bool false, .int .i64 0, .slice none 0 0, .slice none 0 0] 26), (103, .row (.slice A_4 f.chans.length c_5) 37 9 f.chans.length ei), (104, .row (.slice A_14 f.bands.length c_15) 38 1 f.bands.length x.2.2), (105, .row (.slice A_24 f.fill.length c_25) 5 1 f.fill.length cells_27)], [(0, .agg #[.slice Af0 f.chans.length cf0, .bool f.common, .int .i64 f.mask, .slice Af3 f.bands.length cf3, .slice Af4 f.fill.length cf4]), (1, .pointer (some ⟨g_1, 0, none⟩)), (2, .pointer (some ⟨g_2, 0, none⟩)), (5, .pointer (some ⟨g_1, 0, none⟩)), (6, .slice Af0 f.chans.length cf0), (8, .pointer (some ⟨g_1, 3, none⟩)), (9, .slice Af3 f.bands.length cf3), (11, .pointer (some ⟨g_1, 4, none⟩)), (12, .slice Af4 f.fill.length cf4), (7, .slice A_4 f.chans.length c_5), (10, .slice A_14 f.bands.length c_15), (13, .slice A_24 f.fill.length c_25), (14, .pointer (some ⟨g_1, 0, none⟩)), (15, .pointer (some ⟨g_1, 3, none⟩)), (16, .pointer (some ⟨g_1, 4, none⟩)), (17, .pointer (some ⟨g_1, 0, none⟩)), (18, .slice A_4 f.chans.length c_5), (19, .int .i64 (f.chans.length : Int)), (20, .int .i64 i), (21, .bool (decide (i < (f.chans.length : Int)))), (34, .pointer (some ⟨g_1, 3, none⟩)), (35, .slice A_14 f.bands.length c_15), (36, .int .i64 (f.bands.length : Int)), (37, .int .i64 x.1)])) (fun (x : Int × Im × (List Value)) => ImLe T1 x.2.1 ∧ 0 ≤ x.1 ∧ x.1 ≤ f.bands.length ∧ RowOk (kSl kBool) x.2.1 A_14 c_15 x.2.2 f.bands ∧ RdL (kSl kBool) (x.2.1.minus S) (x.2.2.take ((x.1).toNat * 1)) (f.bands.take (x.1).toNat)) (fun (x : Int × Im × (List Value)) => (f.bands.length - x.1).toNat) ((0, T1, cells_17)) ⟨(ImLe.refl _), ⟨by omega, by omega, (h_18.mono hle_34), by simp [RdL]⟩⟩ rfl ⟨rfl, rfl, rfl, rfl, rfl, trivial⟩ ⟨rfl, rfl, rfl, rfl, rfl, rfl, rfl, rfl, rfl, rfl, rfl, rfl, rfl, rfl, rfl, rfl, rfl, rfl, rfl, rfl, rfl, rfl, rfl, rfl, trivial⟩ ?_
        rintro ⟨k, T2, ek⟩ ⟨hle_111, ⟨s0, s1, s2, s3⟩⟩
        dsimp only at *
        refine C_seq ?_
        refine C_region rfl ?_
        refine T_pv rfl (pv_lss rfl rfl) ?_
        refine T_nil ?_
        refine N_then ?_
        refine C_seq ?_
        refine C_cond rfl (fun hb_112 => ?_) (fun hb_112 => ?_)
        · -- decide (k < (f.bands.length : Int)) = true
          have hx_113 := of_decide_eq_true hb_112
          refine C_skip ?_
          refine N_then ?_
          refine C_seq ?_
          refine C_block ?_
          refine C_seq ?_
          refine C_region rfl ?_
          refine T_pv rfl (pv_move rfl) ?_
          refine T_pv rfl (pv_assign rfl) ?_
          refine T_nil ?_
          refine N_then ?_
          refine C_drawS (T2) [(101, .blk g_1 [.slice A_4 f.chans.length c_5, .bool f.common, .int .i64 f.mask, .slice A_14 f.bands.length c_15, .slice A_24 f.fill.length c_25] 26), (102, .blk g_2 [.slice none 0 0, .bool false, .int .i64 0, .slice none 0 0, .slice none 0 0] 26), (103, .row (.slice A_4 f.chans.length c_5) 37 9 f.chans.length ei), (104, .row (.slice A_14 f.bands.length c_15) 38 1 f.bands.length ek), (105, .row (.slice A_24 f.fill.length c_25) 5 1 f.fill.length cells_27)] 9 (by kernel_rfl) rfl (fun h0_114 => ?_)
          refine A_take (i := 0) rfl (by kernel_rfl) (held_le ⟨rfl, rfl, rfl, rfl, rfl, trivial⟩ (ImLe.refl _) h0_114) rfl (pv_fieldAddr rfl fl_26_3) ?_
          refine A_take (i := 1) rfl (by kernel_rfl) (held_le ⟨rfl, rfl, rfl, rfl, rfl, trivial⟩ (ImLe.refl _) h0_114) rfl (pv_load rfl ag23 (Cell.blk 101 rfl rfl)) ?_
          refine A_take (i := 2) rfl (by kernel_rfl) (held_le ⟨rfl, rfl, rfl, rfl, rfl, trivial⟩ (ImLe.refl _) h0_114) rfl (pv_move rfl) ?_
          refine A_take (i := 3) rfl (by kernel_rfl) (held_le ⟨rfl, rfl, rfl, rfl, rfl, trivial⟩ (ImLe.refl _) h0_114) rfl (pv_fieldAddr rfl fl_26_3) ?_
          refine A_take (i := 4) rfl (by kernel_rfl) (held_le ⟨rfl, rfl, rfl, rfl, rfl, trivial⟩ (ImLe.refl _) h0_114) rfl (pv_load rfl ag23 (Cell.blk 101 rfl rfl)) ?_
          refine A_take (i := 5) rfl (by kernel_rfl) (held_le ⟨rfl, rfl, rfl, rfl, rfl, trivial⟩ (ImLe.refl _) h0_114) rfl (pv_move rfl) ?_
          obtain ⟨us_115, hk_116, hcut_118, he_117⟩ := RowOk.elt s2 (i := k) (by omega) (by omega)
          clear hcut_118
          obtain ⟨A_119, c_120, rfl, h_121⟩ := hk_116
          have hb_122 := h_121.bd
          refine A_take (i := 6) rfl (by kernel_rfl) (held_le ⟨rfl, rfl, rfl, rfl, rfl, trivial⟩ (ImLe.refl _) h0_114) rfl (pv_idxrow s2 rfl rfl el23 sz38 (by omega) (by omega)) ?_
          refine A_take (i := 7) rfl (by kernel_rfl) (held_le ⟨rfl, rfl, rfl, rfl, rfl, trivial⟩ (ImLe.refl _) h0_114) rfl (pv_load rfl ag38 ((he_117 _ _ 104 _ _ rfl).zero rfl)) ?_
          refine A_one (i := 8) (by kernel_rfl) ?_
          have zz : _ ≤ 2000 := z4.at_ (i := k) (by omega) (by omega)
          refine AS_op rfl (op_call (fun _ h => by cases h; exact lt_of rfl) rfl rfl rfl en14 (f_CloneBo _ _ _ (f.bands.getD (k).toNat default) h_121 (by omega)) [106] trivial (by simp) (by decide) ?_)
          rintro v_130 S_128 L_131 ⟨A_123, c_124, r_125, cells_126, rfl, rfl, rfl, rfl, h_127⟩ hle_129
          have hb_132 := h_127.bd
          refine ⟨rfl, ?_⟩
          refine ⟨fun _ => (held_le ⟨rfl, rfl, rfl, rfl, rfl, trivial⟩ (ImLe.refl _) h0_114), ?_⟩
          refine A_one (i := 9) (by kernel_rfl) ?_
          refine AS_op rfl (op_pv (lt_of rfl) (pv_idxrow s2 rfl rfl el23 sz38 (by omega) (by omega)) ⟨(fun h => by cases h), ?_⟩)
          refine A_freezeRow 106 rfl (fun S_133 hle_134 hz_135 => ?_)
          have hf_137 : RdA kBool (S_133.minus S) A_123 c_124 (f.bands.getD (k).toNat default) := (hz_135 _ (ImLe.trans hle_34 hle_111) kBool _ rfl (RowOk.any (S' := (T2.minus S)) (fun _ _ _ _ h => h) h_127).len (((RowOk.any (S' := (T2.minus S)) (fun _ _ _ _ h => h) h_127).mono (Im.minus_mono hle_134)).rd))
          refine A_one (i := 10) (by kernel_rfl) ?_
          have hro_139 : RowOk (kSl kBool) S_133 A_14 c_15 (putc ek ((k).toNat * 1) [.slice A_123 ((f.bands.getD (k).toNat default).length) c_124]) (f.bands.set (k).toNat (f.bands.getD (k).toNat default)) := RowOk.put (s2.mono hle_134) ⟨_, _, rfl, (hf_137.mono Im.minus_le)⟩ (by omega) (by omega)
          have hfit_140 : (k).toNat * 1 + 1 ≤ (ek).length := by rw [s2.len]; show _ ≤ _ * 1; omega
          refine AS_op rfl (op_storeR (vs := [.slice A_123 ((f.bands.getD (k).toNat default).length) c_124]) 104 s2.pl rfl rfl rfl sz38 (by simp [Value.oneCell']) rfl (by omega) hfit_140 ?_)
          refine ⟨(fun h => by cases h), ?_⟩
          refine A_done (by kernel_rfl) ?_
          refine N_block ?_
          refine N_then ?_
          refine C_region rfl ?_
          have hr_141 : InR .i64 (k + 1) := inR_i64 (by omega) (by omega)
          refine T_pv rfl (pv_add rfl rfl hr_141) ?_
          refine T_pv rfl (pv_move rfl) ?_
          refine T_nil ?_
          refine N_next ((k + 1, S_133, putc ek ((k).toNat * 1) [.slice A_123 ((f.bands.getD (k).toNat default).length) c_124])) ⟨(ImLe.trans hle_111 hle_134), ⟨by omega, by omega, RowOk.putsame hro_139 (by omega) (by omega), RdL.pre (d := (kSl kBool)) (RdL.mono (Im.minus_mono hle_134) s3) (by rw [s2.len]) ⟨_, _, rfl, hf_137⟩ (by omega) (by omega)⟩⟩ (by first | omega | (dsimp only; omega)) rfl ⟨rfl, rfl, rfl, rfl, rfl, trivial⟩ ⟨rfl, rfl, rfl, rfl, rfl, rfl, rfl, rfl, rfl, rfl, rfl, rfl, rfl, rfl, rfl, rfl, rfl, rfl, rfl, rfl, rfl, rfl, rfl, rfl, trivial⟩
        · -- decide (k < (f.bands.length : Int)) = false
          have hx_142 := of_decide_eq_false hb_112
          refine C_exit ?_
          refine X_then ?_
          refine X_loop ?_
          refine X_block ?_
          refine N_then ?_
          refine C_seq ?_
          refine C_region rfl ?_
          refine T_pv rfl (pv_load_agg (cs := [.slice A_4 f.chans.length c_5, .bool f.common, .int .i64 f.mask, .slice A_14 f.bands.length c_15, .slice A_24 f.fill.length c_25]) rfl ag26 sz26 rfl ⟨Cell.blk 101 rfl rfl, Cell.blk 101 rfl rfl, Cell.blk 101 rfl rfl, Cell.blk 101 rfl rfl, Cell.blk 101 rfl rfl, trivial⟩) ?_
          refine T_cons (op_store_any (vs := [.slice A_4 f.chans.length c_5, .bool f.common, .int .i64 f.mask, .slice A_14 f.bands.length c_15, .slice A_24 f.fill.length c_25]) (cs' := [.slice A_4 f.chans.length c_5, .bool f.common, .int .i64 f.mask, .slice A_14 f.bands.length c_15, .slice A_24 f.fill.length c_25]) 102 rfl rfl rfl sz26 (by simp [Value.oneCell']) rfl (Nat.le_of_ble_eq_true rfl) rfl ?_)
          refine T_nil ?_
          refine N_then ?_
          refine C_ret0 ?_
          -- ret 0: .agg #[.slice A_4 f.chans.length c_5, .bool f.common, .int .i64 f.mask, .slice A_14 f.bands.length c_15, .slice A_24 f.fill.length c_25]
          refine G_freeze 103 rfl (fun S_143 hle_144 hz_145 => ?_)
          have hf_146 : RdA kGChan S_143 A_4 c_5 f.chans := (RowOk.frozen0 (q2.mono hle_111) hle_144 hz_145)
          have hct := hz_145 _ (ImLe.trans hle_34 hle_111) kChanT (f.chans.map tl) (by simp) (by rw [q2.len]; rfl) (RdL.mono (Im.minus_mono (ImLe.trans hle_111 hle_144)) (RdL.whole (n := f.chans.length) q3 (by rw [q2.len]; rfl) (by simp) (by omega) (by omega)))
          refine G_freeze 104 rfl (fun S_147 hle_148 hz_149 => ?_)
          have hf_151 : RdA (kSl kBool) (S_147.minus S) A_14 c_15 f.bands := (hz_149 _ (ImLe.trans (ImLe.trans hle_34 hle_111) hle_144) (kSl kBool) _ rfl (RowOk.whole (S' := (T2.minus S)) s2 s3 (by omega) (by omega)).len ((((RowOk.whole (S' := (T2.minus S)) s2 s3 (by omega) (by omega)).mono (Im.minus_mono hle_144)).mono (Im.minus_mono hle_148)).rd))
          refine G_freeze 105 rfl (fun S_152 hle_153 hz_154 => ?_)
          have hf_156 : RdA (kInt .u8) (S_152.minus S) A_24 c_25 f.fill := (hz_154 _ (ImLe.trans (ImLe.trans (ImLe.trans hle_34 hle_111) hle_144) hle_148) (kInt .u8) _ rfl (RowOk.any (S' := (S_147.minus S)) (fun _ _ _ _ h => h) h_28).len (((RowOk.any (S' := (S_147.minus S)) (fun _ _ _ _ h => h) h_28).mono (Im.minus_mono hle_153)).rd))
          refine Q_ret (vs := [.agg #[.slice A_4 f.chans.length c_5, .bool f.common, .int .i64 f.mask, .slice A_14 f.bands.length c_15, .slice A_24 f.fill.length c_25]]) ⟨⟨_, rfl, .inr ⟨[.slice A_4 f.chans.length c_5, .bool f.common, .int .i64 f.mask, .slice A_14 f.bands.length c_15, .slice A_24 f.fill.length c_25], rfl, ag26, sz26, ⟨Cell.blk 102 rfl rfl, Cell.blk 102 rfl rfl, Cell.blk 102 rfl rfl, Cell.blk 102 rfl rfl, Cell.blk 102 rfl rfl, trivial⟩, rfl⟩⟩, trivial⟩ (L' := []) [] trivial (by simp) (by decide) (⟨_, f, rfl, rfl, ?_, ⟨_, _, _, _, _, _, rfl, (hf_146.mono (ImLe.trans hle_148 hle_153)), hf2, (hf_151.mono (ImLe.trans Im.minus_le hle_153)), (hf_156.mono Im.minus_le)⟩, ?_, ?_, ?_⟩)
          · rfl
          · exact ⟨_, _, rfl, (hct.mono (Im.minus_mono (ImLe.trans hle_148 hle_153)))⟩
          · exact ⟨_, _, rfl, (hf_151.mono (Im.minus_mono hle_153))⟩
          · exact ⟨_, _, rfl, hf_156⟩
    · -- number 9
      refine AS_op rfl (op_pv (lt_of rfl) (pv_fieldAddr rfl fl_26_0) ⟨(fun h => by cases h), ?_⟩)
      refine A_one (i := 8) (by kernel_rfl) ?_
      refine AS_op rfl (op_call (fun _ h => by cases h; exact lt_of rfl) rfl rfl rfl en12 (f_CloneB _ _ _ f.fill hf4 (by omega)) [107] trivial (by simp) (by decide) ?_)
      rintro v_164 S_162 L_165 ⟨A_157, c_158, r_159, cells_160, rfl, rfl, rfl, rfl, h_161⟩ hle_163
      have hb_166 := h_161.bd
      refine ⟨rfl, ?_⟩
      refine ⟨fun _ => (held_le ⟨rfl, rfl, trivial⟩ (ImLe.refl _) h0_3), ?_⟩
      refine A_one (i := 10) (by kernel_rfl) ?_
      refine AS_op rfl (op_store_any (vs := [.slice A_4 f.chans.length c_5]) (cs' := [.slice A_4 f.chans.length c_5, .bool f.common, .int .i64 f.mask, .slice Af3 f.bands.length cf3, .slice Af4 f.fill.length cf4]) 101 rfl rfl rfl sz22 (by simp [Value.oneCell']) rfl (Nat.le_of_ble_eq_true rfl) rfl ?_)
      refine ⟨(fun h => by cases h), ?_⟩
      refine A_one (i := 11) (by kernel_rfl) ?_
      refine AS_op rfl (op_pv (lt_of rfl) (pv_fieldAddr rfl fl_26_3) ⟨(fun h => by cases h), ?_⟩)
      refine A_one (i := 12) (by kernel_rfl) ?_
      refine AS_op rfl (op_store_any (vs := [.slice A_14 f.bands.length c_15]) (cs' := [.slice A_4 f.chans.length c_5, .bool f.common, .int .i64 f.mask, .slice A_14 f.bands.length c_15, .slice Af4 f.fill.length cf4]) 101 rfl rfl rfl sz23 (by simp [Value.oneCell']) rfl (Nat.le_of_ble_eq_true rfl) rfl ?_)
      refine ⟨(fun h => by cases h), ?_⟩
      refine A_one (i := 13) (by kernel_rfl) ?_
      refine AS_op rfl (op_pv (lt_of rfl) (pv_fieldAddr rfl fl_26_4) ⟨(fun h => by cases h), ?_⟩)
      refine A_one (i := 14) (by kernel_rfl) ?_
      refine AS_op rfl (op_store_any (vs := [.slice A_157 f.fill.length c_158]) (cs' := [.slice A_4 f.chans.length c_5, .bool f.common, .int .i64 f.mask, .slice A_14 f.bands.length c_15, .slice A_157 f.fill.length c_158]) 101 rfl rfl rfl sz24 (by simp [Value.oneCell']) rfl (Nat.le_of_ble_eq_true rfl) rfl ?_)
      refine ⟨(fun h => by cases h), ?_⟩
      refine A_done (by kernel_rfl) ?_
      refine N_then ?_
      refine C_seq ?_
      refine C_seq ?_
      refine C_region rfl ?_
      refine T_pv rfl (pv_fieldAddr rfl fl_26_0) ?_
      refine T_pv rfl (pv_load rfl ag22 (Cell.blk 101 rfl rfl)) ?_
      refine T_pv rfl (pv_len rfl el22) ?_
      refine T_pv rfl (pv_move rfl) ?_
      refine T_nil ?_
      refine N_then ?_
      refine C_block ?_
      refine C_loop (fun (x : Int × Im × (List Value)) => (x.2.1, [(101, .blk g_1 [.slice A_4 f.chans.length c_5, .bool f.common, .int .i64 f.mask, .slice A_14 f.bands.length c_15, .slice A_157 f.fill.length c_158] 26), (102, .blk g_2 [.slice none 0 0, .bool false, .int .i64 0, .slice none 0 0, .slice none 0 0] 26), (103, .row (.slice A_4 f.chans.length c_5) 37 9 f.chans.length x.2.2), (104, .row (.slice A_14 f.bands.length c_15) 38 1 f.bands.length cells_17), (107, .row (.slice A_157 f.fill.length c_158) 5 1 f.fill.length cells_160)], [(0, .agg #[.slice Af0 f.chans.length cf0, .bool f.common, .int .i64 f.mask, .slice Af3 f.bands.length cf3, .slice Af4 f.fill.length cf4]), (1, .pointer (some ⟨g_1, 0, none⟩)), (2, .pointer (some ⟨g_2, 0, none⟩)), (5, .pointer (some ⟨g_1, 0, none⟩)), (6, .slice Af0 f.chans.length cf0), (8, .pointer (some ⟨g_1, 3, none⟩)), (9, .slice Af3 f.bands.length cf3), (11, .pointer (some ⟨g_1, 4, none⟩)), (12, .slice Af4 f.fill.length cf4), (7, .slice A_4 f.chans.length c_5), (10, .slice A_14 f.bands.length c_15), (14, .pointer (some ⟨g_1, 0, none⟩)), (13, .slice A_157 f.fill.length c_158), (15, .pointer (some ⟨g_1, 3, none⟩)), (16, .pointer (some ⟨g_1, 4, none⟩)), (17, .pointer (some ⟨g_1, 0, none⟩)), (18, .slice A_4 f.chans.length c_5), (19, .int .i64 (f.chans.length : Int)), (20, .int .i64 x.1)])) (fun (x : Int × Im × (List Value)) => ImLe S x.2.1 ∧ 0 ≤ x.1 ∧ x.1 ≤ f.chans.length ∧ RowOk kGChan x.2.1 A_4 c_5 x.2.2 f.chans ∧ RdL kChanT (x.2.1.minus S) (x.2.2.take ((x.1).toNat * 9)) ((f.chans.map tl).take (x.1).toNat)) (fun (x : Int × Im × (List Value)) => (f.chans.length - x.1).toNat) ((0, S, cells_7)) ⟨(ImLe.refl _), ⟨by omega, by omega, h_8, by simp [RdL]⟩⟩ rfl ⟨rfl, rfl, rfl, rfl, rfl, trivial⟩ ⟨rfl, rfl, rfl, rfl, rfl, rfl, rfl, rfl, rfl, rfl, rfl, rfl, rfl, rfl, rfl, rfl, rfl, rfl, rfl, trivial⟩ ?_
      rintro ⟨i, T1, ei⟩ ⟨hle_167, ⟨q0, q1, q2, q3⟩⟩
      dsimp only at *
      refine C_seq ?_
      refine C_region rfl ?_
      refine T_pv rfl (pv_lss rfl rfl) ?_
      refine T_nil ?_
      refine N_then ?_
      refine C_seq ?_
      refine C_cond rfl (fun hb_168 => ?_) (fun hb_168 => ?_)
      · -- decide (i < (f.chans.length : Int)) = true
        have hx_169 := of_decide_eq_true hb_168
        refine C_skip ?_
        refine N_then ?_
        refine C_seq ?_
        refine C_block ?_
        refine C_seq ?_
        refine C_region rfl ?_
        refine T_pv rfl (pv_move rfl) ?_
        refine T_pv rfl (pv_assign rfl) ?_
        refine T_nil ?_
        refine N_then ?_
        refine C_drawS (T1) [(101, .blk g_1 [.slice A_4 f.chans.length c_5, .bool f.common, .int .i64 f.mask, .slice A_14 f.bands.length c_15, .slice A_157 f.fill.length c_158] 26), (102, .blk g_2 [.slice none 0 0, .bool false, .int .i64 0, .slice none 0 0, .slice none 0 0] 26), (103, .row (.slice A_4 f.chans.length c_5) 37 9 f.chans.length ei), (104, .row (.slice A_14 f.bands.length c_15) 38 1 f.bands.length cells_17), (107, .row (.slice A_157 f.fill.length c_158) 5 1 f.fill.length cells_160)] 9 (by kernel_rfl) rfl (fun h0_170 => ?_)
        refine A_take (i := 0) rfl (by kernel_rfl) (held_le ⟨rfl, rfl, rfl, rfl, rfl, trivial⟩ (ImLe.refl _) h0_170) rfl (pv_fieldAddr rfl fl_26_0) ?_
        refine A_take (i := 1) rfl (by kernel_rfl) (held_le ⟨rfl, rfl, rfl, rfl, rfl, trivial⟩ (ImLe.refl _) h0_170) rfl (pv_load rfl ag22 (Cell.blk 101 rfl rfl)) ?_
        refine A_take (i := 2) rfl (by kernel_rfl) (held_le ⟨rfl, rfl, rfl, rfl, rfl, trivial⟩ (ImLe.refl _) h0_170) rfl (pv_move rfl) ?_
        refine A_take (i := 3) rfl (by kernel_rfl) (held_le ⟨rfl, rfl, rfl, rfl, rfl, trivial⟩ (ImLe.refl _) h0_170) rfl (pv_fieldAddr rfl fl_26_0) ?_
        refine A_take (i := 4) rfl (by kernel_rfl) (held_le ⟨rfl, rfl, rfl, rfl, rfl, trivial⟩ (ImLe.refl _) h0_170) rfl (pv_load rfl ag22 (Cell.blk 101 rfl rfl)) ?_
        refine A_take (i := 5) rfl (by kernel_rfl) (held_le ⟨rfl, rfl, rfl, rfl, rfl, trivial⟩ (ImLe.refl _) h0_170) rfl (pv_move rfl) ?_
        obtain ⟨us_171, hk_172, hcut_174, he_173⟩ := RowOk.elt q2 (i := i) (by omega) (by omega)
        clear hcut_174
        obtain ⟨A_175, c_176, A_177, c_178, A_179, c_180, A_181, c_182, A_183, c_184, rfl, h_185, h_186, h_187, h_188, h_189, h_190, h_191, h_192, h_193⟩ := hk_172
        have hq_194 := InR.i64 h_185
        have hq_195 := InR.u8 h_186
        have hq_196 := InR.u8 h_187
        have hq_197 := InR.i64 h_188
        have hb_198 := h_189.bd
        have hb_199 := h_190.bd
        have hb_200 := h_191.bd
        have hb_201 := h_192.bd
        have hb_202 := h_193.bd
        refine A_take (i := 6) rfl (by kernel_rfl) (held_le ⟨rfl, rfl, rfl, rfl, rfl, trivial⟩ (ImLe.refl _) h0_170) rfl (pv_idxrow q2 rfl rfl el22 sz37 (by omega) (by omega)) ?_
        refine A_take (i := 7) rfl (by kernel_rfl) (held_le ⟨rfl, rfl, rfl, rfl, rfl, trivial⟩ (ImLe.refl _) h0_170) rfl (pv_load_aggE (cs := [.int .i64 ((f.chans.getD (i).toNat default).gain), .int .u8 (((f.chans.getD (i).toNat default).info).seq), .int .u8 (((f.chans.getD (i).toNat default).info).shape), .int .i64 (((f.chans.getD (i).toNat default).info).max), .slice A_175 ((((f.chans.getD (i).toNat default).info).groups).length) c_176, .slice A_177 (((f.chans.getD (i).toNat default).sections).length) c_178, .slice A_179 (((f.chans.getD (i).toNat default).steps).length) c_180, .slice A_181 (((f.chans.getD (i).toNat default).tns).length) c_182, .slice A_183 (((f.chans.getD (i).toNat default).lines).length) c_184]) rfl ag37 sz37 (he_173 _ _ 103 _ _ rfl)) ?_
        refine A_one (i := 8) (by kernel_rfl) ?_
        have zz : GChan.small _ := z2.at_ (i := i) (by omega) (by omega)
        refine AS_op rfl (op_call (fun _ h => by cases h; exact lt_of rfl) rfl rfl rfl en13 (f_lane_Twin _ (f.chans.getD (i).toNat default) h_185 h_186 h_187 h_188 _ _ h_189 _ _ h_190 _ _ h_191 _ _ h_192 _ _ h_193 zz) [] trivial (by simp) (by decide) ?_)
        rintro v_209 S_207 L_210 ⟨us_203, r_204, rfl, rfl, rfl, h_205, hf_206⟩ hle_208
        obtain ⟨A_211, c_212, A_213, c_214, A_215, c_216, A_217, c_218, A_219, c_220, rfl, h_221, h_222, h_223, h_224, h_225, h_226, h_227, h_228, h_229⟩ := h_205
        have hq_230 := InR.i64 h_221
        have hq_231 := InR.u8 h_222
        have hq_232 := InR.u8 h_223
        have hq_233 := InR.i64 h_224
        have hb_234 := h_225.bd
        have hb_235 := h_226.bd
        have hb_236 := h_227.bd
        have hb_237 := h_228.bd
        have hb_238 := h_229.bd
        refine ⟨rfl, ?_⟩
        refine ⟨fun _ => (held_le ⟨rfl, rfl, rfl, rfl, rfl, trivial⟩ hle_208 h0_170), ?_⟩
        refine A_one (i := 9) (by kernel_rfl) ?_
        refine AS_op rfl (op_pv (lt_of rfl) (pv_idxrow q2 rfl rfl el22 sz37 (by omega) (by omega)) ⟨(fun h => by cases h), ?_⟩)
        refine A_one (i := 10) (by kernel_rfl) ?_
        obtain ⟨A9, c9, e9, h9⟩ := hf_206
        simp only [List.getElem?_cons_succ, List.getElem?_cons_zero, Option.some.injEq, Value.slice.injEq, true_and] at e9
        obtain ⟨rfl, rfl⟩ := e9
        have hro_240 : RowOk kGChan S_207 A_4 c_5 (putc ei ((i).toNat * 9) [.int .i64 ((f.chans.getD (i).toNat default).gain), .int .u8 (((f.chans.getD (i).toNat default).info).seq), .int .u8 (((f.chans.getD (i).toNat default).info).shape), .int .i64 (((f.chans.getD (i).toNat default).info).max), .slice A_211 ((((f.chans.getD (i).toNat default).info).groups).length) c_212, .slice A_213 (((f.chans.getD (i).toNat default).sections).length) c_214, .slice A_215 (((f.chans.getD (i).toNat default).steps).length) c_216, .slice A_217 (((f.chans.getD (i).toNat default).tns).length) c_218, .slice A_219 (((f.chans.getD (i).toNat default).lines).length) c_220]) (f.chans.set (i).toNat (f.chans.getD (i).toNat default)) := RowOk.put (q2.mono hle_208) ⟨_, _, _, _, _, _, _, _, _, _, rfl, h_221, h_222, h_223, h_224, h_225, h_226, h_227, h_228, h_229⟩ (by omega) (by omega)
        have hfit_241 : (i).toNat * 9 + 9 ≤ (ei).length := by rw [q2.len]; show _ ≤ _ * 9; omega
        refine AS_op rfl (op_storeR (vs := [.int .i64 ((f.chans.getD (i).toNat default).gain), .int .u8 (((f.chans.getD (i).toNat default).info).seq), .int .u8 (((f.chans.getD (i).toNat default).info).shape), .int .i64 (((f.chans.getD (i).toNat default).info).max), .slice A_211 ((((f.chans.getD (i).toNat default).info).groups).length) c_212, .slice A_213 (((f.chans.getD (i).toNat default).sections).length) c_214, .slice A_215 (((f.chans.getD (i).toNat default).steps).length) c_216, .slice A_217 (((f.chans.getD (i).toNat default).tns).length) c_218, .slice A_219 (((f.chans.getD (i).toNat default).lines).length) c_220]) 103 q2.pl rfl rfl rfl sz37 (by simp [Value.oneCell']) rfl (by omega) hfit_241 ?_)
        refine ⟨(fun h => by cases h), ?_⟩
        refine A_done (by kernel_rfl) ?_
        refine N_block ?_
        refine N_then ?_
        refine C_region rfl ?_
        have hr_242 : InR .i64 (i + 1) := inR_i64 (by omega) (by omega)
        refine T_pv rfl (pv_add rfl rfl hr_242) ?_
        refine T_pv rfl (pv_move rfl) ?_
        refine T_nil ?_
        refine N_next ((i + 1, S_207, putc ei ((i).toNat * 9) [.int .i64 ((f.chans.getD (i).toNat default).gain), .int .u8 (((f.chans.getD (i).toNat default).info).seq), .int .u8 (((f.chans.getD (i).toNat default).info).shape), .int .i64 (((f.chans.getD (i).toNat default).info).max), .slice A_211 ((((f.chans.getD (i).toNat default).info).groups).length) c_212, .slice A_213 (((f.chans.getD (i).toNat default).sections).length) c_214, .slice A_215 (((f.chans.getD (i).toNat default).steps).length) c_216, .slice A_217 (((f.chans.getD (i).toNat default).tns).length) c_218, .slice A_219 (((f.chans.getD (i).toNat default).lines).length) c_220])) ⟨(ImLe.trans hle_167 hle_208), ⟨by omega, by omega, RowOk.putsame hro_240 (by omega) (by omega), RdL.pre (d := kChanT) (RdL.mono (Im.minus_mono hle_208) q3) (by rw [q2.len, List.length_map]; rfl) ⟨_, [.int .u8 (((f.chans.getD (i).toNat default).info).seq), .int .u8 (((f.chans.getD (i).toNat default).info).shape), .int .i64 (((f.chans.getD (i).toNat default).info).max), .slice A_211 ((((f.chans.getD (i).toNat default).info).groups).length) c_212, .slice A_213 (((f.chans.getD (i).toNat default).sections).length) c_214, .slice A_215 (((f.chans.getD (i).toNat default).steps).length) c_216, .slice A_217 (((f.chans.getD (i).toNat default).tns).length) c_218], _, _, by rw [map_tl (by omega) (by omega), tl, shp_length]; rfl, h_221, rfl, by simp [Value.oneCell'], by rw [map_tl (by omega) (by omega), tl]; exact RdA.anyI (h9.mono (Im.minus_anti hle_167))⟩ (by omega) (by rw [List.length_map]; omega)⟩⟩ (by first | omega | (dsimp only; omega)) rfl ⟨rfl, rfl, rfl, rfl, rfl, trivial⟩ ⟨rfl, rfl, rfl, rfl, rfl, rfl, rfl, rfl, rfl, rfl, rfl, rfl, rfl, rfl, rfl, rfl, rfl, rfl, rfl, trivial⟩
      · -- decide (i < (f.chans.length : Int)) = false
        have hx_243 := of_decide_eq_false hb_168
        refine C_exit ?_
        refine X_then ?_
        refine X_loop ?_
        refine X_block ?_
        refine N_then ?_
        refine C_seq ?_
        refine C_seq ?_
        refine C_region rfl ?_
        refine T_pv rfl (pv_fieldAddr rfl fl_26_3) ?_
        refine T_pv rfl (pv_load rfl ag23 (Cell.blk 101 rfl rfl)) ?_
        refine T_pv rfl (pv_len rfl el23) ?_
        refine T_pv rfl (pv_move rfl) ?_
        refine T_nil ?_
        refine N_then ?_
        refine C_block ?_
        refine C_loop (fun (x : Int × Im × (List Value)) => (x.2.1, [(101, .blk g_1 [.slice A_4 f.chans.length c_5, .bool f.common, .int .i64 f.mask, .slice A_14 f.bands.length c_15, .slice A_157 f.fill.length c_158] 26), (102, .blk g_2 [.slice none 0 0, .bool false, .int .i64 0, .slice none 0 0, .slice none 0 0] 26), (103, .row (.slice A_4 f.chans.length c_5) 37 9 f.chans.length ei), (104, .row (.slice A_14 f.bands.length c_15) 38 1 f.bands.length x.2.2), (107, .row (.slice A_157 f.fill.length c_158) 5 1 f.fill.length cells_160)], [(0, .agg #[.slice Af0 f.chans.length cf0, .bool f.common, .int .i64 f.mask, .slice Af3 f.bands.length cf3, .slice Af4 f.fill.length cf4]), (1, .pointer (some ⟨g_1, 0, none⟩)), (2, .pointer (some ⟨g_2, 0, none⟩)), (5, .pointer (some ⟨g_1, 0, none⟩)), (6, .slice Af0 f.chans.length cf0), (8, .pointer (some ⟨g_1, 3, none⟩)), (9, .slice Af3 f.bands.length cf3), (11, .pointer (some ⟨g_1, 4, none⟩)), (12, .slice Af4 f.fill.length cf4), (7, .slice A_4 f.chans.length c_5), (10, .slice A_14 f.bands.length c_15), (14, .pointer (some ⟨g_1, 0, none⟩)), (13, .slice A_157 f.fill.length c_158), (15, .pointer (some ⟨g_1, 3, none⟩)), (16, .pointer (some ⟨g_1, 4, none⟩)), (17, .pointer (some ⟨g_1, 0, none⟩)), (18, .slice A_4 f.chans.length c_5), (19, .int .i64 (f.chans.length : Int)), (20, .int .i64 i), (21, .bool (decide (i < (f.chans.length : Int)))), (34, .pointer (some ⟨g_1, 3, none⟩)), (35, .slice A_14 f.bands.length c_15), (36, .int .i64 (f.bands.length : Int)), (37, .int .i64 x.1)])) (fun (x : Int × Im × (List Value)) => ImLe T1 x.2.1 ∧ 0 ≤ x.1 ∧ x.1 ≤ f.bands.length ∧ RowOk (kSl kBool) x.2.1 A_14 c_15 x.2.2 f.bands ∧ RdL (kSl kBool) (x.2.1.minus S) (x.2.2.take ((x.1).toNat * 1)) (f.bands.take (x.1).toNat)) (fun (x : Int × Im × (List Value)) => (f.bands.length - x.1).toNat) ((0, T1, cells_17)) ⟨(ImLe.refl _), ⟨by omega, by omega, (h_18.mono hle_167), by simp [RdL]⟩⟩ rfl ⟨rfl, rfl, rfl, rfl, rfl, trivial⟩ ⟨rfl, rfl, rfl, rfl, rfl, rfl, rfl, rfl, rfl, rfl, rfl, rfl, rfl, rfl, rfl, rfl, rfl, rfl, rfl, rfl, rfl, rfl, rfl, rfl, trivial⟩ ?_
        rintro ⟨k, T2, ek⟩ ⟨hle_244, ⟨s0, s1, s2, s3⟩⟩
        dsimp only at *
        refine C_seq ?_
        refine C_region rfl ?_
        refine T_pv rfl (pv_lss rfl rfl) ?_
        refine T_nil ?_
        refine N_then ?_
        refine C_seq ?_
        refine C_cond rfl (fun hb_245 => ?_) (fun hb_245 => ?_)
        · -- decide (k < (f.bands.length : Int)) = true
          have hx_246 := of_decide_eq_true hb_245
          refine C_skip ?_
          refine N_then ?_
          refine C_seq ?_
          refine C_block ?_
          refine C_seq ?_
          refine C_region rfl ?_
          refine T_pv rfl (pv_move rfl) ?_
          refine T_pv rfl (pv_assign rfl) ?_
          refine T_nil ?_
          refine N_then ?_
          refine C_drawS (T2) [(101, .blk g_1 [.slice A_4 f.chans.length c_5, .bool f.common, .int .i64 f.mask, .slice A_14 f.bands.length c_15, .slice A_157 f.fill.length c_158] 26), (102, .blk g_2 [.slice none 0 0, .bool false, .int .i64 0, .slice none 0 0, .slice none 0 0] 26), (103, .row (.slice A_4 f.chans.length c_5) 37 9 f.chans.length ei), (104, .row (.slice A_14 f.bands.length c_15) 38 1 f.bands.length ek), (107, .row (.slice A_157 f.fill.length c_158) 5 1 f.fill.length cells_160)] 9 (by kernel_rfl) rfl (fun h0_247 => ?_)
          refine A_take (i := 0) rfl (by kernel_rfl) (held_le ⟨rfl, rfl, rfl, rfl, rfl, trivial⟩ (ImLe.refl _) h0_247) rfl (pv_fieldAddr rfl fl_26_3) ?_
          refine A_take (i := 1) rfl (by kernel_rfl) (held_le ⟨rfl, rfl, rfl, rfl, rfl, trivial⟩ (ImLe.refl _) h0_247) rfl (pv_load rfl ag23 (Cell.blk 101 rfl rfl)) ?_
          refine A_take (i := 2) rfl (by kernel_rfl) (held_le ⟨rfl, rfl, rfl, rfl, rfl, trivial⟩ (ImLe.refl _) h0_247) rfl (pv_move rfl) ?_
          refine A_take (i := 3) rfl (by kernel_rfl) (held_le ⟨rfl, rfl, rfl, rfl, rfl, trivial⟩ (ImLe.refl _) h0_247) rfl (pv_fieldAddr rfl fl_26_3) ?_
          refine A_take (i := 4) rfl (by kernel_rfl) (held_le ⟨rfl, rfl, rfl, rfl, rfl, trivial⟩ (ImLe.refl _) h0_247) rfl (pv_load rfl ag23 (Cell.blk 101 rfl rfl)) ?_
          refine A_take (i := 5) rfl (by kernel_rfl) (held_le ⟨rfl, rfl, rfl, rfl, rfl, trivial⟩ (ImLe.refl _) h0_247) rfl (pv_move rfl) ?_
          obtain ⟨us_248, hk_249, hcut_251, he_250⟩ := RowOk.elt s2 (i := k) (by omega) (by omega)
          clear hcut_251
          obtain ⟨A_252, c_253, rfl, h_254⟩ := hk_249
          have hb_255 := h_254.bd
          refine A_take (i := 6) rfl (by kernel_rfl) (held_le ⟨rfl, rfl, rfl, rfl, rfl, trivial⟩ (ImLe.refl _) h0_247) rfl (pv_idxrow s2 rfl rfl el23 sz38 (by omega) (by omega)) ?_
          refine A_take (i := 7) rfl (by kernel_rfl) (held_le ⟨rfl, rfl, rfl, rfl, rfl, trivial⟩ (ImLe.refl _) h0_247) rfl (pv_load rfl ag38 ((he_250 _ _ 104 _ _ rfl).zero rfl)) ?_
          refine A_one (i := 8) (by kernel_rfl) ?_
          have zz : _ ≤ 2000 := z4.at_ (i := k) (by omega) (by omega)
          refine AS_op rfl (op_call (fun _ h => by cases h; exact lt_of rfl) rfl rfl rfl en14 (f_CloneBo _ _ _ (f.bands.getD (k).toNat default) h_254 (by omega)) [108] trivial (by simp) (by decide) ?_)
          rintro v_263 S_261 L_264 ⟨A_256, c_257, r_258, cells_259, rfl, rfl, rfl, rfl, h_260⟩ hle_262
          have hb_265 := h_260.bd
          refine ⟨rfl, ?_⟩
          refine ⟨fun _ => (held_le ⟨rfl, rfl, rfl, rfl, rfl, trivial⟩ (ImLe.refl _) h0_247), ?_⟩
          refine A_one (i := 9) (by kernel_rfl) ?_
          refine AS_op rfl (op_pv (lt_of rfl) (pv_idxrow s2 rfl rfl el23 sz38 (by omega) (by omega)) ⟨(fun h => by cases h), ?_⟩)
          refine A_freezeRow 108 rfl (fun S_266 hle_267 hz_268 => ?_)
          have hf_270 : RdA kBool (S_266.minus S) A_256 c_257 (f.bands.getD (k).toNat default) := (hz_268 _ (ImLe.trans hle_167 hle_244) kBool _ rfl (RowOk.any (S' := (T2.minus S)) (fun _ _ _ _ h => h) h_260).len (((RowOk.any (S' := (T2.minus S)) (fun _ _ _ _ h => h) h_260).mono (Im.minus_mono hle_267)).rd))
          refine A_one (i := 10) (by kernel_rfl) ?_
          have hro_272 : RowOk (kSl kBool) S_266 A_14 c_15 (putc ek ((k).toNat * 1) [.slice A_256 ((f.bands.getD (k).toNat default).length) c_257]) (f.bands.set (k).toNat (f.bands.getD (k).toNat default)) := RowOk.put (s2.mono hle_267) ⟨_, _, rfl, (hf_270.mono Im.minus_le)⟩ (by omega) (by omega)
          have hfit_273 : (k).toNat * 1 + 1 ≤ (ek).length := by rw [s2.len]; show _ ≤ _ * 1; omega
          refine AS_op rfl (op_storeR (vs := [.slice A_256 ((f.bands.getD (k).toNat default).length) c_257]) 104 s2.pl rfl rfl rfl sz38 (by simp [Value.oneCell']) rfl (by omega) hfit_273 ?_)
          refine ⟨(fun h => by cases h), ?_⟩
          refine A_done (by kernel_rfl) ?_
          refine N_block ?_
          refine N_then ?_
          refine C_region rfl ?_
          have hr_274 : InR .i64 (k + 1) := inR_i64 (by omega) (by omega)
          refine T_pv rfl (pv_add rfl rfl hr_274) ?_
          refine T_pv rfl (pv_move rfl) ?_
          refine T_nil ?_
          refine N_next ((k + 1, S_266, putc ek ((k).toNat * 1) [.slice A_256 ((f.bands.getD (k).toNat default).length) c_257])) ⟨(ImLe.trans hle_244 hle_267), ⟨by omega, by omega, RowOk.putsame hro_272 (by omega) (by omega), RdL.pre (d := (kSl kBool)) (RdL.mono (Im.minus_mono hle_267) s3) (by rw [s2.len]) ⟨_, _, rfl, hf_270⟩ (by omega) (by omega)⟩⟩ (by first | omega | (dsimp only; omega)) rfl ⟨rfl, rfl, rfl, rfl, rfl, trivial⟩ ⟨rfl, rfl, rfl, rfl, rfl, rfl, rfl, rfl, rfl, rfl, rfl, rfl, rfl, rfl, rfl, rfl, rfl, rfl, rfl, rfl, rfl, rfl, rfl, rfl, trivial⟩
        · -- decide (k < (f.bands.length : Int)) = false
          have hx_275 := of_decide_eq_false hb_245
          refine C_exit ?_
          refine X_then ?_
          refine X_loop ?_
          refine X_block ?_
          refine N_then ?_
          refine C_seq ?_
          refine C_region rfl ?_
          refine T_pv rfl (pv_load_agg (cs := [.slice A_4 f.chans.length c_5, .bool f.common, .int .i64 f.mask, .slice A_14 f.bands.length c_15, .slice A_157 f.fill.length c_158]) rfl ag26 sz26 rfl ⟨Cell.blk 101 rfl rfl, Cell.blk 101 rfl rfl, Cell.blk 101 rfl rfl, Cell.blk 101 rfl rfl, Cell.blk 101 rfl rfl, trivial⟩) ?_
          refine T_cons (op_store_any (vs := [.slice A_4 f.chans.length c_5, .bool f.common, .int .i64 f.mask, .slice A_14 f.bands.length c_15, .slice A_157 f.fill.length c_158]) (cs' := [.slice A_4 f.chans.length c_5, .bool f.common, .int .i64 f.mask, .slice A_14 f.bands.length c_15, .slice A_157 f.fill.length c_158]) 102 rfl rfl rfl sz26 (by simp [Value.oneCell']) rfl (Nat.le_of_ble_eq_true rfl) rfl ?_)
          refine T_nil ?_
          refine N_then ?_
          refine C_ret0 ?_
          -- ret 1: .agg #[.slice A_4 f.chans.length c_5, .bool f.common, .int .i64 f.mask, .slice A_14 f.bands.length c_15, .slice A_157 f.fill.length c_158]
          refine G_freeze 103 rfl (fun S_276 hle_277 hz_278 => ?_)
          have hf_279 : RdA kGChan S_276 A_4 c_5 f.chans := (RowOk.frozen0 (q2.mono hle_244) hle_277 hz_278)
          have hct := hz_278 _ (ImLe.trans hle_167 hle_244) kChanT (f.chans.map tl) (by simp) (by rw [q2.len]; rfl) (RdL.mono (Im.minus_mono (ImLe.trans hle_244 hle_277)) (RdL.whole (n := f.chans.length) q3 (by rw [q2.len]; rfl) (by simp) (by omega) (by omega)))
          refine G_freeze 104 rfl (fun S_280 hle_281 hz_282 => ?_)
          have hf_284 : RdA (kSl kBool) (S_280.minus S) A_14 c_15 f.bands := (hz_282 _ (ImLe.trans (ImLe.trans hle_167 hle_244) hle_277) (kSl kBool) _ rfl (RowOk.whole (S' := (T2.minus S)) s2 s3 (by omega) (by omega)).len ((((RowOk.whole (S' := (T2.minus S)) s2 s3 (by omega) (by omega)).mono (Im.minus_mono hle_277)).mono (Im.minus_mono hle_281)).rd))
          refine G_freeze 107 rfl (fun S_285 hle_286 hz_287 => ?_)
          have hf_289 : RdA (kInt .u8) (S_285.minus S) A_157 c_158 f.fill := (hz_287 _ (ImLe.trans (ImLe.trans (ImLe.trans hle_167 hle_244) hle_277) hle_281) (kInt .u8) _ rfl (RowOk.any (S' := (S_280.minus S)) (fun _ _ _ _ h => h) h_161).len (((RowOk.any (S' := (S_280.minus S)) (fun _ _ _ _ h => h) h_161).mono (Im.minus_mono hle_286)).rd))
          refine Q_ret (vs := [.agg #[.slice A_4 f.chans.length c_5, .bool f.common, .int .i64 f.mask, .slice A_14 f.bands.length c_15, .slice A_157 f.fill.length c_158]]) ⟨⟨_, rfl, .inr ⟨[.slice A_4 f.chans.length c_5, .bool f.common, .int .i64 f.mask, .slice A_14 f.bands.length c_15, .slice A_157 f.fill.length c_158], rfl, ag26, sz26, ⟨Cell.blk 102 rfl rfl, Cell.blk 102 rfl rfl, Cell.blk 102 rfl rfl, Cell.blk 102 rfl rfl, Cell.blk 102 rfl rfl, trivial⟩, rfl⟩⟩, trivial⟩ (L' := []) [] trivial (by simp) (by decide) (⟨_, f, rfl, rfl, ?_, ⟨_, _, _, _, _, _, rfl, (hf_279.mono (ImLe.trans hle_281 hle_286)), hf2, (hf_284.mono (ImLe.trans Im.minus_le hle_286)), (hf_289.mono Im.minus_le)⟩, ?_, ?_, ?_⟩)
          · rfl
          · exact ⟨_, _, rfl, (hct.mono (Im.minus_mono (ImLe.trans hle_281 hle_286)))⟩
          · exact ⟨_, _, rfl, (hf_284.mono (Im.minus_mono hle_286))⟩
          · exact ⟨_, _, rfl, hf_289⟩
  · -- number 9
    refine AS_op rfl (op_pv (lt_of rfl) (pv_fieldAddr rfl fl_26_0) ⟨(fun h => by cases h), ?_⟩)
    refine A_one (i := 5) (by kernel_rfl) ?_
    refine AS_op rfl (op_call (fun _ h => by cases h; exact lt_of rfl) rfl rfl rfl en11 (f_CloneLB _ _ _ f.bands hf3 (by omega)) [109] trivial (by simp) (by decide) ?_)
    rintro v_297 S_295 L_298 ⟨A_290, c_291, r_292, cells_293, rfl, rfl, rfl, rfl, h_294⟩ hle_296
    have hb_299 := h_294.bd
    refine ⟨rfl, ?_⟩
    refine ⟨fun _ => (held_le ⟨rfl, rfl, trivial⟩ (ImLe.refl _) h0_3), ?_⟩
    refine A_one (i := 8) (by kernel_rfl) ?_
    refine AS_op rfl (op_call (fun _ h => by cases h; exact lt_of rfl) rfl rfl rfl en12 (f_CloneB _ _ _ f.fill hf4 (by omega)) [110] trivial (by simp) (by decide) ?_)
    rintro v_307 S_305 L_308 ⟨A_300, c_301, r_302, cells_303, rfl, rfl, rfl, rfl, h_304⟩ hle_306
    have hb_309 := h_304.bd
    refine ⟨rfl, ?_⟩
    refine ⟨fun _ => (held_le ⟨rfl, rfl, trivial⟩ (ImLe.refl _) h0_3), ?_⟩
    refine A_one (i := 10) (by kernel_rfl) ?_
    refine AS_op rfl (op_store_any (vs := [.slice A_4 f.chans.length c_5]) (cs' := [.slice A_4 f.chans.length c_5, .bool f.common, .int .i64 f.mask, .slice Af3 f.bands.length cf3, .slice Af4 f.fill.length cf4]) 101 rfl rfl rfl sz22 (by simp [Value.oneCell']) rfl (Nat.le_of_ble_eq_true rfl) rfl ?_)
    refine ⟨(fun h => by cases h), ?_⟩
    refine A_one (i := 11) (by kernel_rfl) ?_
    refine AS_op rfl (op_pv (lt_of rfl) (pv_fieldAddr rfl fl_26_3) ⟨(fun h => by cases h), ?_⟩)
    refine A_one (i := 12) (by kernel_rfl) ?_
    refine AS_op rfl (op_store_any (vs := [.slice A_290 f.bands.length c_291]) (cs' := [.slice A_4 f.chans.length c_5, .bool f.common, .int .i64 f.mask, .slice A_290 f.bands.length c_291, .slice Af4 f.fill.length cf4]) 101 rfl rfl rfl sz23 (by simp [Value.oneCell']) rfl (Nat.le_of_ble_eq_true rfl) rfl ?_)
    refine ⟨(fun h => by cases h), ?_⟩
    refine A_one (i := 13) (by kernel_rfl) ?_
    refine AS_op rfl (op_pv (lt_of rfl) (pv_fieldAddr rfl fl_26_4) ⟨(fun h => by cases h), ?_⟩)
    refine A_one (i := 14) (by kernel_rfl) ?_
    refine AS_op rfl (op_store_any (vs := [.slice A_300 f.fill.length c_301]) (cs' := [.slice A_4 f.chans.length c_5, .bool f.common, .int .i64 f.mask, .slice A_290 f.bands.length c_291, .slice A_300 f.fill.length c_301]) 101 rfl rfl rfl sz24 (by simp [Value.oneCell']) rfl (Nat.le_of_ble_eq_true rfl) rfl ?_)
    refine ⟨(fun h => by cases h), ?_⟩
    refine A_done (by kernel_rfl) ?_
    refine N_then ?_
    refine C_seq ?_
    refine C_seq ?_
    refine C_region rfl ?_
    refine T_pv rfl (pv_fieldAddr rfl fl_26_0) ?_
    refine T_pv rfl (pv_load rfl ag22 (Cell.blk 101 rfl rfl)) ?_
    refine T_pv rfl (pv_len rfl el22) ?_
    refine T_pv rfl (pv_move rfl) ?_
    refine T_nil ?_
    refine N_then ?_
    refine C_block ?_
    refine C_loop (fun (x : Int × Im × (List Value)) => (x.2.1, [(101, .blk g_1 [.slice A_4 f.chans.length c_5, .bool f.common, .int .i64 f.mask, .slice A_290 f.bands.length c_291, .slice A_300 f.fill.length c_301] 26), (102, .blk g_2 [.slice none 0 0, .bool false, .int .i64 0, .slice none 0 0, .slice none 0 0] 26), (103, .row (.slice A_4 f.chans.length c_5) 37 9 f.chans.length x.2.2), (109, .row (.slice A_290 f.bands.length c_291) 38 1 f.bands.length cells_293), (110, .row (.slice A_300 f.fill.length c_301) 5 1 f.fill.length cells_303)], [(0, .agg #[.slice Af0 f.chans.length cf0, .bool f.common, .int .i64 f.mask, .slice Af3 f.bands.length cf3, .slice Af4 f.fill.length cf4]), (1, .pointer (some ⟨g_1, 0, none⟩)), (2, .pointer (some ⟨g_2, 0, none⟩)), (5, .pointer (some ⟨g_1, 0, none⟩)), (6, .slice Af0 f.chans.length cf0), (8, .pointer (some ⟨g_1, 3, none⟩)), (9, .slice Af3 f.bands.length cf3), (11, .pointer (some ⟨g_1, 4, none⟩)), (12, .slice Af4 f.fill.length cf4), (7, .slice A_4 f.chans.length c_5), (14, .pointer (some ⟨g_1, 0, none⟩)), (10, .slice A_290 f.bands.length c_291), (13, .slice A_300 f.fill.length c_301), (15, .pointer (some ⟨g_1, 3, none⟩)), (16, .pointer (some ⟨g_1, 4, none⟩)), (17, .pointer (some ⟨g_1, 0, none⟩)), (18, .slice A_4 f.chans.length c_5), (19, .int .i64 (f.chans.length : Int)), (20, .int .i64 x.1)])) (fun (x : Int × Im × (List Value)) => ImLe S x.2.1 ∧ 0 ≤ x.1 ∧ x.1 ≤ f.chans.length ∧ RowOk kGChan x.2.1 A_4 c_5 x.2.2 f.chans ∧ RdL kChanT (x.2.1.minus S) (x.2.2.take ((x.1).toNat * 9)) ((f.chans.map tl).take (x.1).toNat)) (fun (x : Int × Im × (List Value)) => (f.chans.length - x.1).toNat) ((0, S, cells_7)) ⟨(ImLe.refl _), ⟨by omega, by omega, h_8, by simp [RdL]⟩⟩ rfl ⟨rfl, rfl, rfl, rfl, rfl, trivial⟩ ⟨rfl, rfl, rfl, rfl, rfl, rfl, rfl, rfl, rfl, rfl, rfl, rfl, rfl, rfl, rfl, rfl, rfl, rfl, rfl, trivial⟩ ?_
    rintro ⟨i, T1, ei⟩ ⟨hle_310, ⟨q0, q1, q2, q3⟩⟩
    dsimp only at *
    refine C_seq ?_
    refine C_region rfl ?_
    refine T_pv rfl (pv_lss rfl rfl) ?_
    refine T_nil ?_
    refine N_then ?_
    refine C_seq ?_
    refine C_cond rfl (fun hb_311 => ?_) (fun hb_311 => ?_)
    · -- decide (i < (f.chans.length : Int)) = true
      have hx_312 := of_decide_eq_true hb_311
      refine C_skip ?_
      refine N_then ?_
      refine C_seq ?_
      refine C_block ?_
      refine C_seq ?_
      refine C_region rfl ?_
      refine T_pv rfl (pv_move rfl) ?_
      refine T_pv rfl (pv_assign rfl) ?_
      refine T_nil ?_
      refine N_then ?_
      refine C_drawS (T1) [(101, .blk g_1 [.slice A_4 f.chans.length c_5, .bool f.common, .int .i64 f.mask, .slice A_290 f.bands.length c_291, .slice A_300 f.fill.length c_301] 26), (102, .blk g_2 [.slice none 0 0, .bool false, .int .i64 0, .slice none 0 0, .slice none 0 0] 26), (103, .row (.slice A_4 f.chans.length c_5) 37 9 f.chans.length ei), (109, .row (.slice A_290 f.bands.length c_291) 38 1 f.bands.length cells_293), (110, .row (.slice A_300 f.fill.length c_301) 5 1 f.fill.length cells_303)] 9 (by kernel_rfl) rfl (fun h0_313 => ?_)
      refine A_take (i := 0) rfl (by kernel_rfl) (held_le ⟨rfl, rfl, rfl, rfl, rfl, trivial⟩ (ImLe.refl _) h0_313) rfl (pv_fieldAddr rfl fl_26_0) ?_
      refine A_take (i := 1) rfl (by kernel_rfl) (held_le ⟨rfl, rfl, rfl, rfl, rfl, trivial⟩ (ImLe.refl _) h0_313) rfl (pv_load rfl ag22 (Cell.blk 101 rfl rfl)) ?_
      refine A_take (i := 2) rfl (by kernel_rfl) (held_le ⟨rfl, rfl, rfl, rfl, rfl, trivial⟩ (ImLe.refl _) h0_313) rfl (pv_move rfl) ?_
      refine A_take (i := 3) rfl (by kernel_rfl) (held_le ⟨rfl, rfl, rfl, rfl, rfl, trivial⟩ (ImLe.refl _) h0_313) rfl (pv_fieldAddr rfl fl_26_0) ?_
      refine A_take (i := 4) rfl (by kernel_rfl) (held_le ⟨rfl, rfl, rfl, rfl, rfl, trivial⟩ (ImLe.refl _) h0_313) rfl (pv_load rfl ag22 (Cell.blk 101 rfl rfl)) ?_
      refine A_take (i := 5) rfl (by kernel_rfl) (held_le ⟨rfl, rfl, rfl, rfl, rfl, trivial⟩ (ImLe.refl _) h0_313) rfl (pv_move rfl) ?_
      obtain ⟨us_314, hk_315, hcut_317, he_316⟩ := RowOk.elt q2 (i := i) (by omega) (by omega)
      clear hcut_317
      obtain ⟨A_318, c_319, A_320, c_321, A_322, c_323, A_324, c_325, A_326, c_327, rfl, h_328, h_329, h_330, h_331, h_332, h_333, h_334, h_335, h_336⟩ := hk_315
      have hq_337 := InR.i64 h_328
      have hq_338 := InR.u8 h_329
      have hq_339 := InR.u8 h_330
      have hq_340 := InR.i64 h_331
      have hb_341 := h_332.bd
      have hb_342 := h_333.bd
      have hb_343 := h_334.bd
      have hb_344 := h_335.bd
      have hb_345 := h_336.bd
      refine A_take (i := 6) rfl (by kernel_rfl) (held_le ⟨rfl, rfl, rfl, rfl, rfl, trivial⟩ (ImLe.refl _) h0_313) rfl (pv_idxrow q2 rfl rfl el22 sz37 (by omega) (by omega)) ?_
      refine A_take (i := 7) rfl (by kernel_rfl) (held_le ⟨rfl, rfl, rfl, rfl, rfl, trivial⟩ (ImLe.refl _) h0_313) rfl (pv_load_aggE (cs := [.int .i64 ((f.chans.getD (i).toNat default).gain), .int .u8 (((f.chans.getD (i).toNat default).info).seq), .int .u8 (((f.chans.getD (i).toNat default).info).shape), .int .i64 (((f.chans.getD (i).toNat default).info).max), .slice A_318 ((((f.chans.getD (i).toNat default).info).groups).length) c_319, .slice A_320 (((f.chans.getD (i).toNat default).sections).length) c_321, .slice A_322 (((f.chans.getD (i).toNat default).steps).length) c_323, .slice A_324 (((f.chans.getD (i).toNat default).tns).length) c_325, .slice A_326 (((f.chans.getD (i).toNat default).lines).length) c_327]) rfl ag37 sz37 (he_316 _ _ 103 _ _ rfl)) ?_
      refine A_one (i := 8) (by kernel_rfl) ?_
      have zz : GChan.small _ := z2.at_ (i := i) (by omega) (by omega)
      refine AS_op rfl (op_call (fun _ h => by cases h; exact lt_of rfl) rfl rfl rfl en13 (f_lane_Twin _ (f.chans.getD (i).toNat default) h_328 h_329 h_330 h_331 _ _ h_332 _ _ h_333 _ _ h_334 _ _ h_335 _ _ h_336 zz) [] trivial (by simp) (by decide) ?_)
      rintro v_352 S_350 L_353 ⟨us_346, r_347, rfl, rfl, rfl, h_348, hf_349⟩ hle_351
      obtain ⟨A_354, c_355, A_356, c_357, A_358, c_359, A_360, c_361, A_362, c_363, rfl, h_364, h_365, h_366, h_367, h_368, h_369, h_370, h_371, h_372⟩ := h_348
      have hq_373 := InR.i64 h_364
      have hq_374 := InR.u8 h_365
      have hq_375 := InR.u8 h_366
      have hq_376 := InR.i64 h_367
      have hb_377 := h_368.bd
      have hb_378 := h_369.bd
      have hb_379 := h_370.bd
      have hb_380 := h_371.bd
      have hb_381 := h_372.bd
      refine ⟨rfl, ?_⟩
      refine ⟨fun _ => (held_le ⟨rfl, rfl, rfl, rfl, rfl, trivial⟩ hle_351 h0_313), ?_⟩
      refine A_one (i := 9) (by kernel_rfl) ?_
      refine AS_op rfl (op_pv (lt_of rfl) (pv_idxrow q2 rfl rfl el22 sz37 (by omega) (by omega)) ⟨(fun h => by cases h), ?_⟩)
      refine A_one (i := 10) (by kernel_rfl) ?_
      obtain ⟨A9, c9, e9, h9⟩ := hf_349
      simp only [List.getElem?_cons_succ, List.getElem?_cons_zero, Option.some.injEq, Value.slice.injEq, true_and] at e9
      obtain ⟨rfl, rfl⟩ := e9
      have hro_383 : RowOk kGChan S_350 A_4 c_5 (putc ei ((i).toNat * 9) [.int .i64 ((f.chans.getD (i).toNat default).gain), .int .u8 (((f.chans.getD (i).toNat default).info).seq), .int .u8 (((f.chans.getD (i).toNat default).info).shape), .int .i64 (((f.chans.getD (i).toNat default).info).max), .slice A_354 ((((f.chans.getD (i).toNat default).info).groups).length) c_355, .slice A_356 (((f.chans.getD (i).toNat default).sections).length) c_357, .slice A_358 (((f.chans.getD (i).toNat default).steps).length) c_359, .slice A_360 (((f.chans.getD (i).toNat default).tns).length) c_361, .slice A_362 (((f.chans.getD (i).toNat default).lines).length) c_363]) (f.chans.set (i).toNat (f.chans.getD (i).toNat default)) := RowOk.put (q2.mono hle_351) ⟨_, _, _, _, _, _, _, _, _, _, rfl, h_364, h_365, h_366, h_367, h_368, h_369, h_370, h_371, h_372⟩ (by omega) (by omega)
      have hfit_384 : (i).toNat * 9 + 9 ≤ (ei).length := by rw [q2.len]; show _ ≤ _ * 9; omega
      refine AS_op rfl (op_storeR (vs := [.int .i64 ((f.chans.getD (i).toNat default).gain), .int .u8 (((f.chans.getD (i).toNat default).info).seq), .int .u8 (((f.chans.getD (i).toNat default).info).shape), .int .i64 (((f.chans.getD (i).toNat default).info).max), .slice A_354 ((((f.chans.getD (i).toNat default).info).groups).length) c_355, .slice A_356 (((f.chans.getD (i).toNat default).sections).length) c_357, .slice A_358 (((f.chans.getD (i).toNat default).steps).length) c_359, .slice A_360 (((f.chans.getD (i).toNat default).tns).length) c_361, .slice A_362 (((f.chans.getD (i).toNat default).lines).length) c_363]) 103 q2.pl rfl rfl rfl sz37 (by simp [Value.oneCell']) rfl (by omega) hfit_384 ?_)
      refine ⟨(fun h => by cases h), ?_⟩
      refine A_done (by kernel_rfl) ?_
      refine N_block ?_
      refine N_then ?_
      refine C_region rfl ?_
      have hr_385 : InR .i64 (i + 1) := inR_i64 (by omega) (by omega)
      refine T_pv rfl (pv_add rfl rfl hr_385) ?_
      refine T_pv rfl (pv_move rfl) ?_
      refine T_nil ?_
      refine N_next ((i + 1, S_350, putc ei ((i).toNat * 9) [.int .i64 ((f.chans.getD (i).toNat default).gain), .int .u8 (((f.chans.getD (i).toNat default).info).seq), .int .u8 (((f.chans.getD (i).toNat default).info).shape), .int .i64 (((f.chans.getD (i).toNat default).info).max), .slice A_354 ((((f.chans.getD (i).toNat default).info).groups).length) c_355, .slice A_356 (((f.chans.getD (i).toNat default).sections).length) c_357, .slice A_358 (((f.chans.getD (i).toNat default).steps).length) c_359, .slice A_360 (((f.chans.getD (i).toNat default).tns).length) c_361, .slice A_362 (((f.chans.getD (i).toNat default).lines).length) c_363])) ⟨(ImLe.trans hle_310 hle_351), ⟨by omega, by omega, RowOk.putsame hro_383 (by omega) (by omega), RdL.pre (d := kChanT) (RdL.mono (Im.minus_mono hle_351) q3) (by rw [q2.len, List.length_map]; rfl) ⟨_, [.int .u8 (((f.chans.getD (i).toNat default).info).seq), .int .u8 (((f.chans.getD (i).toNat default).info).shape), .int .i64 (((f.chans.getD (i).toNat default).info).max), .slice A_354 ((((f.chans.getD (i).toNat default).info).groups).length) c_355, .slice A_356 (((f.chans.getD (i).toNat default).sections).length) c_357, .slice A_358 (((f.chans.getD (i).toNat default).steps).length) c_359, .slice A_360 (((f.chans.getD (i).toNat default).tns).length) c_361], _, _, by rw [map_tl (by omega) (by omega), tl, shp_length]; rfl, h_364, rfl, by simp [Value.oneCell'], by rw [map_tl (by omega) (by omega), tl]; exact RdA.anyI (h9.mono (Im.minus_anti hle_310))⟩ (by omega) (by rw [List.length_map]; omega)⟩⟩ (by first | omega | (dsimp only; omega)) rfl ⟨rfl, rfl, rfl, rfl, rfl, trivial⟩ ⟨rfl, rfl, rfl, rfl, rfl, rfl, rfl, rfl, rfl, rfl, rfl, rfl, rfl, rfl, rfl, rfl, rfl, rfl, rfl, trivial⟩
    · -- decide (i < (f.chans.length : Int)) = false
      have hx_386 := of_decide_eq_false hb_311
      refine C_exit ?_
      refine X_then ?_
      refine X_loop ?_
      refine X_block ?_
      refine N_then ?_
      refine C_seq ?_
      refine C_seq ?_
      refine C_region rfl ?_
      refine T_pv rfl (pv_fieldAddr rfl fl_26_3) ?_
      refine T_pv rfl (pv_load rfl ag23 (Cell.blk 101 rfl rfl)) ?_
      refine T_pv rfl (pv_len rfl el23) ?_
      refine T_pv rfl (pv_move rfl) ?_
      refine T_nil ?_
      refine N_then ?_
      refine C_block ?_
      refine C_loop (fun (x : Int × Im × (List Value)) => (x.2.1, [(101, .blk g_1 [.slice A_4 f.chans.length c_5, .bool f.common, .int .i64 f.mask, .slice A_290 f.bands.length c_291, .slice A_300 f.fill.length c_301] 26), (102, .blk g_2 [.slice none 0 0, .bool false, .int .i64 0, .slice none 0 0, .slice none 0 0] 26), (103, .row (.slice A_4 f.chans.length c_5) 37 9 f.chans.length ei), (109, .row (.slice A_290 f.bands.length c_291) 38 1 f.bands.length x.2.2), (110, .row (.slice A_300 f.fill.length c_301) 5 1 f.fill.length cells_303)], [(0, .agg #[.slice Af0 f.chans.length cf0, .bool f.common, .int .i64 f.mask, .slice Af3 f.bands.length cf3, .slice Af4 f.fill.length cf4]), (1, .pointer (some ⟨g_1, 0, none⟩)), (2, .pointer (some ⟨g_2, 0, none⟩)), (5, .pointer (some ⟨g_1, 0, none⟩)), (6, .slice Af0 f.chans.length cf0), (8, .pointer (some ⟨g_1, 3, none⟩)), (9, .slice Af3 f.bands.length cf3), (11, .pointer (some ⟨g_1, 4, none⟩)), (12, .slice Af4 f.fill.length cf4), (7, .slice A_4 f.chans.length c_5), (14, .pointer (some ⟨g_1, 0, none⟩)), (10, .slice A_290 f.bands.length c_291), (13, .slice A_300 f.fill.length c_301), (15, .pointer (some ⟨g_1, 3, none⟩)), (16, .pointer (some ⟨g_1, 4, none⟩)), (17, .pointer (some ⟨g_1, 0, none⟩)), (18, .slice A_4 f.chans.length c_5), (19, .int .i64 (f.chans.length : Int)), (20, .int .i64 i), (21, .bool (decide (i < (f.chans.length : Int)))), (34, .pointer (some ⟨g_1, 3, none⟩)), (35, .slice A_290 f.bands.length c_291), (36, .int .i64 (f.bands.length : Int)), (37, .int .i64 x.1)])) (fun (x : Int × Im × (List Value)) => ImLe T1 x.2.1 ∧ 0 ≤ x.1 ∧ x.1 ≤ f.bands.length ∧ RowOk (kSl kBool) x.2.1 A_290 c_291 x.2.2 f.bands ∧ RdL (kSl kBool) (x.2.1.minus S) (x.2.2.take ((x.1).toNat * 1)) (f.bands.take (x.1).toNat)) (fun (x : Int × Im × (List Value)) => (f.bands.length - x.1).toNat) ((0, T1, cells_293)) ⟨(ImLe.refl _), ⟨by omega, by omega, (h_294.mono hle_310), by simp [RdL]⟩⟩ rfl ⟨rfl, rfl, rfl, rfl, rfl, trivial⟩ ⟨rfl, rfl, rfl, rfl, rfl, rfl, rfl, rfl, rfl, rfl, rfl, rfl, rfl, rfl, rfl, rfl, rfl, rfl, rfl, rfl, rfl, rfl, rfl, rfl, trivial⟩ ?_
      rintro ⟨k, T2, ek⟩ ⟨hle_387, ⟨s0, s1, s2, s3⟩⟩
      dsimp only at *
      refine C_seq ?_
      refine C_region rfl ?_
      refine T_pv rfl (pv_lss rfl rfl) ?_
      refine T_nil ?_
      refine N_then ?_
      refine C_seq ?_
      refine C_cond rfl (fun hb_388 => ?_) (fun hb_388 => ?_)
      · -- decide (k < (f.bands.length : Int)) = true
        have hx_389 := of_decide_eq_true hb_388
        refine C_skip ?_
        refine N_then ?_
        refine C_seq ?_
        refine C_block ?_
        refine C_seq ?_
        refine C_region rfl ?_
        refine T_pv rfl (pv_move rfl) ?_
        refine T_pv rfl (pv_assign rfl) ?_
        refine T_nil ?_
        refine N_then ?_
        refine C_drawS (T2) [(101, .blk g_1 [.slice A_4 f.chans.length c_5, .bool f.common, .int .i64 f.mask, .slice A_290 f.bands.length c_291, .slice A_300 f.fill.length c_301] 26), (102, .blk g_2 [.slice none 0 0, .bool false, .int .i64 0, .slice none 0 0, .slice none 0 0] 26), (103, .row (.slice A_4 f.chans.length c_5) 37 9 f.chans.length ei), (109, .row (.slice A_290 f.bands.length c_291) 38 1 f.bands.length ek), (110, .row (.slice A_300 f.fill.length c_301) 5 1 f.fill.length cells_303)] 9 (by kernel_rfl) rfl (fun h0_390 => ?_)
        refine A_take (i := 0) rfl (by kernel_rfl) (held_le ⟨rfl, rfl, rfl, rfl, rfl, trivial⟩ (ImLe.refl _) h0_390) rfl (pv_fieldAddr rfl fl_26_3) ?_
        refine A_take (i := 1) rfl (by kernel_rfl) (held_le ⟨rfl, rfl, rfl, rfl, rfl, trivial⟩ (ImLe.refl _) h0_390) rfl (pv_load rfl ag23 (Cell.blk 101 rfl rfl)) ?_
        refine A_take (i := 2) rfl (by kernel_rfl) (held_le ⟨rfl, rfl, rfl, rfl, rfl, trivial⟩ (ImLe.refl _) h0_390) rfl (pv_move rfl) ?_
        refine A_take (i := 3) rfl (by kernel_rfl) (held_le ⟨rfl, rfl, rfl, rfl, rfl, trivial⟩ (ImLe.refl _) h0_390) rfl (pv_fieldAddr rfl fl_26_3) ?_
        refine A_take (i := 4) rfl (by kernel_rfl) (held_le ⟨rfl, rfl, rfl, rfl, rfl, trivial⟩ (ImLe.refl _) h0_390) rfl (pv_load rfl ag23 (Cell.blk 101 rfl rfl)) ?_
        refine A_take (i := 5) rfl (by kernel_rfl) (held_le ⟨rfl, rfl, rfl, rfl, rfl, trivial⟩ (ImLe.refl _) h0_390) rfl (pv_move rfl) ?_
        obtain ⟨us_391, hk_392, hcut_394, he_393⟩ := RowOk.elt s2 (i := k) (by omega) (by omega)
        clear hcut_394
        obtain ⟨A_395, c_396, rfl, h_397⟩ := hk_392
        have hb_398 := h_397.bd
        refine A_take (i := 6) rfl (by kernel_rfl) (held_le ⟨rfl, rfl, rfl, rfl, rfl, trivial⟩ (ImLe.refl _) h0_390) rfl (pv_idxrow s2 rfl rfl el23 sz38 (by omega) (by omega)) ?_
        refine A_take (i := 7) rfl (by kernel_rfl) (held_le ⟨rfl, rfl, rfl, rfl, rfl, trivial⟩ (ImLe.refl _) h0_390) rfl (pv_load rfl ag38 ((he_393 _ _ 109 _ _ rfl).zero rfl)) ?_
        refine A_one (i := 8) (by kernel_rfl) ?_
        have zz : _ ≤ 2000 := z4.at_ (i := k) (by omega) (by omega)
        refine AS_op rfl (op_call (fun _ h => by cases h; exact lt_of rfl) rfl rfl rfl en14 (f_CloneBo _ _ _ (f.bands.getD (k).toNat default) h_397 (by omega)) [111] trivial (by simp) (by decide) ?_)
        rintro v_406 S_404 L_407 ⟨A_399, c_400, r_401, cells_402, rfl, rfl, rfl, rfl, h_403⟩ hle_405
        have hb_408 := h_403.bd
        refine ⟨rfl, ?_⟩
        refine ⟨fun _ => (held_le ⟨rfl, rfl, rfl, rfl, rfl, trivial⟩ (ImLe.refl _) h0_390), ?_⟩
        refine A_one (i := 9) (by kernel_rfl) ?_
        refine AS_op rfl (op_pv (lt_of rfl) (pv_idxrow s2 rfl rfl el23 sz38 (by omega) (by omega)) ⟨(fun h => by cases h), ?_⟩)
        refine A_freezeRow 111 rfl (fun S_409 hle_410 hz_411 => ?_)
        have hf_413 : RdA kBool (S_409.minus S) A_399 c_400 (f.bands.getD (k).toNat default) := (hz_411 _ (ImLe.trans hle_310 hle_387) kBool _ rfl (RowOk.any (S' := (T2.minus S)) (fun _ _ _ _ h => h) h_403).len (((RowOk.any (S' := (T2.minus S)) (fun _ _ _ _ h => h) h_403).mono (Im.minus_mono hle_410)).rd))
        refine A_one (i := 10) (by kernel_rfl) ?_
        have hro_415 : RowOk (kSl kBool) S_409 A_290 c_291 (putc ek ((k).toNat * 1) [.slice A_399 ((f.bands.getD (k).toNat default).length) c_400]) (f.bands.set (k).toNat (f.bands.getD (k).toNat default)) := RowOk.put (s2.mono hle_410) ⟨_, _, rfl, (hf_413.mono Im.minus_le)⟩ (by omega) (by omega)
        have hfit_416 : (k).toNat * 1 + 1 ≤ (ek).length := by rw [s2.len]; show _ ≤ _ * 1; omega
        refine AS_op rfl (op_storeR (vs := [.slice A_399 ((f.bands.getD (k).toNat default).length) c_400]) 109 s2.pl rfl rfl rfl sz38 (by simp [Value.oneCell']) rfl (by omega) hfit_416 ?_)
        refine ⟨(fun h => by cases h), ?_⟩
        refine A_done (by kernel_rfl) ?_
        refine N_block ?_
        refine N_then ?_
        refine C_region rfl ?_
        have hr_417 : InR .i64 (k + 1) := inR_i64 (by omega) (by omega)
        refine T_pv rfl (pv_add rfl rfl hr_417) ?_
        refine T_pv rfl (pv_move rfl) ?_
        refine T_nil ?_
        refine N_next ((k + 1, S_409, putc ek ((k).toNat * 1) [.slice A_399 ((f.bands.getD (k).toNat default).length) c_400])) ⟨(ImLe.trans hle_387 hle_410), ⟨by omega, by omega, RowOk.putsame hro_415 (by omega) (by omega), RdL.pre (d := (kSl kBool)) (RdL.mono (Im.minus_mono hle_410) s3) (by rw [s2.len]) ⟨_, _, rfl, hf_413⟩ (by omega) (by omega)⟩⟩ (by first | omega | (dsimp only; omega)) rfl ⟨rfl, rfl, rfl, rfl, rfl, trivial⟩ ⟨rfl, rfl, rfl, rfl, rfl, rfl, rfl, rfl, rfl, rfl, rfl, rfl, rfl, rfl, rfl, rfl, rfl, rfl, rfl, rfl, rfl, rfl, rfl, rfl, trivial⟩
      · -- decide (k < (f.bands.length : Int)) = false
        have hx_418 := of_decide_eq_false hb_388
        refine C_exit ?_
        refine X_then ?_
        refine X_loop ?_
        refine X_block ?_
        refine N_then ?_
        refine C_seq ?_
        refine C_region rfl ?_
        refine T_pv rfl (pv_load_agg (cs := [.slice A_4 f.chans.length c_5, .bool f.common, .int .i64 f.mask, .slice A_290 f.bands.length c_291, .slice A_300 f.fill.length c_301]) rfl ag26 sz26 rfl ⟨Cell.blk 101 rfl rfl, Cell.blk 101 rfl rfl, Cell.blk 101 rfl rfl, Cell.blk 101 rfl rfl, Cell.blk 101 rfl rfl, trivial⟩) ?_
        refine T_cons (op_store_any (vs := [.slice A_4 f.chans.length c_5, .bool f.common, .int .i64 f.mask, .slice A_290 f.bands.length c_291, .slice A_300 f.fill.length c_301]) (cs' := [.slice A_4 f.chans.length c_5, .bool f.common, .int .i64 f.mask, .slice A_290 f.bands.length c_291, .slice A_300 f.fill.length c_301]) 102 rfl rfl rfl sz26 (by simp [Value.oneCell']) rfl (Nat.le_of_ble_eq_true rfl) rfl ?_)
        refine T_nil ?_
        refine N_then ?_
        refine C_ret0 ?_
        -- ret 2: .agg #[.slice A_4 f.chans.length c_5, .bool f.common, .int .i64 f.mask, .slice A_290 f.bands.length c_291, .slice A_300 f.fill.length c_301]
        refine G_freeze 103 rfl (fun S_419 hle_420 hz_421 => ?_)
        have hf_422 : RdA kGChan S_419 A_4 c_5 f.chans := (RowOk.frozen0 (q2.mono hle_387) hle_420 hz_421)
        have hct := hz_421 _ (ImLe.trans hle_310 hle_387) kChanT (f.chans.map tl) (by simp) (by rw [q2.len]; rfl) (RdL.mono (Im.minus_mono (ImLe.trans hle_387 hle_420)) (RdL.whole (n := f.chans.length) q3 (by rw [q2.len]; rfl) (by simp) (by omega) (by omega)))
        refine G_freeze 109 rfl (fun S_423 hle_424 hz_425 => ?_)
        have hf_427 : RdA (kSl kBool) (S_423.minus S) A_290 c_291 f.bands := (hz_425 _ (ImLe.trans (ImLe.trans hle_310 hle_387) hle_420) (kSl kBool) _ rfl (RowOk.whole (S' := (T2.minus S)) s2 s3 (by omega) (by omega)).len ((((RowOk.whole (S' := (T2.minus S)) s2 s3 (by omega) (by omega)).mono (Im.minus_mono hle_420)).mono (Im.minus_mono hle_424)).rd))
        refine G_freeze 110 rfl (fun S_428 hle_429 hz_430 => ?_)
        have hf_432 : RdA (kInt .u8) (S_428.minus S) A_300 c_301 f.fill := (hz_430 _ (ImLe.trans (ImLe.trans (ImLe.trans hle_310 hle_387) hle_420) hle_424) (kInt .u8) _ rfl (RowOk.any (S' := (S_423.minus S)) (fun _ _ _ _ h => h) h_304).len (((RowOk.any (S' := (S_423.minus S)) (fun _ _ _ _ h => h) h_304).mono (Im.minus_mono hle_429)).rd))
        refine Q_ret (vs := [.agg #[.slice A_4 f.chans.length c_5, .bool f.common, .int .i64 f.mask, .slice A_290 f.bands.length c_291, .slice A_300 f.fill.length c_301]]) ⟨⟨_, rfl, .inr ⟨[.slice A_4 f.chans.length c_5, .bool f.common, .int .i64 f.mask, .slice A_290 f.bands.length c_291, .slice A_300 f.fill.length c_301], rfl, ag26, sz26, ⟨Cell.blk 102 rfl rfl, Cell.blk 102 rfl rfl, Cell.blk 102 rfl rfl, Cell.blk 102 rfl rfl, Cell.blk 102 rfl rfl, trivial⟩, rfl⟩⟩, trivial⟩ (L' := []) [] trivial (by simp) (by decide) (⟨_, f, rfl, rfl, ?_, ⟨_, _, _, _, _, _, rfl, (hf_422.mono (ImLe.trans hle_424 hle_429)), hf2, (hf_427.mono (ImLe.trans Im.minus_le hle_429)), (hf_432.mono Im.minus_le)⟩, ?_, ?_, ?_⟩)
        · rfl
        · exact ⟨_, _, rfl, (hct.mono (Im.minus_mono (ImLe.trans hle_424 hle_429)))⟩
        · exact ⟨_, _, rfl, (hf_427.mono (Im.minus_mono hle_429))⟩
        · exact ⟨_, _, rfl, hf_432⟩

end Go.Proofs.Ythamgiecgilmdaa
