/- Walks, printed by wip/tool/walk2.py. -/
import Derived.Test.YthamgiecgilmdaaSg
import Derived.Test.YthamgiecgilmdaaSd
import Derived.Test.YthamgiecgilmdaaRbR
namespace Go.Proofs.Ythamgiecgilmdaa
open Go Go.RowKit

set_option maxRecDepth 100000 in
theorem f_law (S : Im) (f : GFrame) (Af0 : Option Addr) (cf0 : Nat) (hf0 : RdA kGChan S Af0 cf0 f.chans) (hf2 : InR .i64 f.mask) (Af3 : Option Addr) (cf3 : Nat) (hf3 : RdA (kSl kBool) S Af3 cf3 f.bands) (Af4 : Option Addr) (cf4 : Nat) (hf4 : RdA (kInt .u8) S Af4 cf4 f.fill) (o : GFrame) (Ao0 : Option Addr) (co0 : Nat) (ho0 : RdA kGChan S Ao0 co0 o.chans) (ho2 : InR .i64 o.mask) (Ao3 : Option Addr) (co3 : Nat) (ho3 : RdA (kSl kBool) S Ao3 co3 o.bands) (Ao4 : Option Addr) (co4 : Nat) (ho4 : RdA (kInt .u8) S Ao4 co4 o.fill) : Fn Try.prog 3 [.agg #[.slice Af0 f.chans.length cf0, .bool f.common, .int .i64 f.mask, .slice Af3 f.bands.length cf3, .slice Af4 f.fill.length cf4], .agg #[.slice Ao0 o.chans.length co0, .bool o.common, .int .i64 o.mask, .slice Ao3 o.bands.length co3, .slice Ao4 o.fill.length co4]] S [] fun v S' L' => ∃ (r0 : Bool), v = .bool r0 ∧ L' = [] ∧ true = r0 := by
  have hb_f0 := hf0.bd
  have hb_f2 := InR.i64 hf2
  have hb_f3 := hf3.bd
  have hb_f4 := hf4.bd
  have hb_o0 := ho0.bd
  have hb_o2 := InR.i64 ho2
  have hb_o3 := ho3.bd
  have hb_o4 := ho4.bd
  refine Fn_intro 126 Try.func3 rfl rfl rfl fun w0 => ?_
  refine C_seq ?_
  refine C_region rfl ?_
  refine T_cons (op_box (cs := [.slice Af0 f.chans.length cf0, .bool f.common, .int .i64 f.mask, .slice Af3 f.bands.length cf3, .slice Af4 f.fill.length cf4]) (lt_of rfl) 101 rfl rfl fun g_1 => ?_)
  refine T_cons (op_box (cs := [.slice Ao0 o.chans.length co0, .bool o.common, .int .i64 o.mask, .slice Ao3 o.bands.length co3, .slice Ao4 o.fill.length co4]) (lt_of rfl) 102 rfl rfl fun g_2 => ?_)
  refine T_pv rfl (pv_assign rfl) ?_
  refine T_nil ?_
  refine N_then ?_
  refine C_seq ?_
  refine C_seq ?_
  refine C_region rfl ?_
  refine T_pv rfl (pv_load_agg (cs := [.slice Af0 f.chans.length cf0, .bool f.common, .int .i64 f.mask, .slice Af3 f.bands.length cf3, .slice Af4 f.fill.length cf4]) rfl ag26 sz26 rfl ⟨Cell.blk 101 rfl rfl, Cell.blk 101 rfl rfl, Cell.blk 101 rfl rfl, Cell.blk 101 rfl rfl, Cell.blk 101 rfl rfl, trivial⟩) ?_
  refine T_cons (op_call (fun _ h => by cases h; exact lt_of rfl) rfl rfl rfl en4 (f_r23_Great _ f _ _ hf0 hf2 _ _ hf3 _ _ hf4) [] trivial (by simp) (by decide) ?_)
  rintro v_7 S_5 L_8 ⟨r_3, rfl, rfl, rfl, hf_4⟩ hle_6
  refine ⟨rfl, ?_⟩
  have gf := hf_4
  refine T_pv rfl (pv_move rfl) ?_
  refine T_gs (dj := 15) rfl (fun hb_9 => ?_) (fun hb_9 => ?_)
  · -- r_3 = true
    refine T_gn rfl rfl hb_9 rfl ?_
    refine T_gn rfl rfl hb_9 rfl ?_
    refine T_pv rfl (pv_pick_t rfl hb_9 rfl) ?_
    refine T_nil ?_
    refine N_then ?_
    refine C_condt rfl rfl ?_
    refine C_seq ?_
    refine C_region rfl ?_
    refine T_pv rfl (pv_assign rfl) ?_
    refine T_nil ?_
    refine N_then ?_
    refine C_ret0 ?_
    refine R_then ?_
    -- ret 0: .bool true
    refine Q_ret (vs := [.bool true]) ⟨rfl, trivial⟩ (L' := []) [] trivial (by simp) (by decide) (⟨true, rfl, rfl, ?_⟩)
    · first | rfl | simp
  · -- r_3 = false
    refine T_gy rfl rfl hb_9 rfl (pv_load_agg (cs := [.slice Ao0 o.chans.length co0, .bool o.common, .int .i64 o.mask, .slice Ao3 o.bands.length co3, .slice Ao4 o.fill.length co4]) rfl ag26 sz26 rfl ⟨Cell.blk 102 rfl rfl, Cell.blk 102 rfl rfl, Cell.blk 102 rfl rfl, Cell.blk 102 rfl rfl, Cell.blk 102 rfl rfl, trivial⟩) ?_
    refine T_gyo rfl rfl hb_9 (op_call (fun _ h => by cases h; exact lt_of rfl) rfl rfl rfl en4 (f_r23_Great _ o _ _ ho0 ho2 _ _ ho3 _ _ ho4) [] trivial (by simp) (by decide) ?_)
    rintro v_14 S_12 L_15 ⟨r_10, rfl, rfl, rfl, hf_11⟩ hle_13
    refine ⟨rfl, ?_⟩
    refine T_pv rfl (pv_pick_f rfl hb_9 rfl) ?_
    refine T_nil ?_
    refine N_then ?_
    refine C_cond rfl (fun hb_16 => ?_) (fun hb_16 => ?_)
    · -- r_10 = true
      refine C_seq ?_
      refine C_region rfl ?_
      refine T_pv rfl (pv_assign rfl) ?_
      refine T_nil ?_
      refine N_then ?_
      refine C_ret0 ?_
      refine R_then ?_
      -- ret 1: .bool true
      refine Q_ret (vs := [.bool true]) ⟨rfl, trivial⟩ (L' := []) [] trivial (by simp) (by decide) (⟨true, rfl, rfl, ?_⟩)
      · first | rfl | simp
    · -- r_10 = false
      refine C_skip ?_
      refine N_then ?_
      refine C_seq ?_
      refine C_region rfl ?_
      refine T_pv rfl (pv_load_agg (cs := [.slice Af0 f.chans.length cf0, .bool f.common, .int .i64 f.mask, .slice Af3 f.bands.length cf3, .slice Af4 f.fill.length cf4]) rfl ag26 sz26 rfl ⟨Cell.blk 101 rfl rfl, Cell.blk 101 rfl rfl, Cell.blk 101 rfl rfl, Cell.blk 101 rfl rfl, Cell.blk 101 rfl rfl, trivial⟩) ?_
      have sm : GFrame.small f := gf hb_9
      refine T_cons (op_call (fun _ h => by cases h; exact lt_of rfl) rfl rfl rfl en5 (f_raw_Twin _ f _ _ hf0 hf2 _ _ hf3 _ _ hf4 sm) [] trivial (by simp) (by decide) ?_)
      rintro v_25 S_23 L_26 ⟨us_17, r_18, rfl, rfl, rfl, h_19, hf_20, hf_21, hf_22⟩ hle_24
      obtain ⟨A_27, c_28, A_29, c_30, A_31, c_32, rfl, h_33, h_34, h_35, h_36⟩ := h_19
      have hb_37 := h_33.bd
      have hq_38 := InR.i64 h_34
      have hb_39 := h_35.bd
      have hb_40 := h_36.bd
      refine ⟨rfl, ?_⟩
      refine T_cons (op_alloc (cs := [.slice none 0 0, .bool false, .int .i64 0, .slice none 0 0, .slice none 0 0]) (lt_of rfl) 103 zr26 rfl fun g_41 => ?_)
      refine T_cons (op_store_any (vs := [.slice A_27 f.chans.length c_28, .bool f.common, .int .i64 f.mask, .slice A_29 f.bands.length c_30, .slice A_31 f.fill.length c_32]) (cs' := [.slice A_27 f.chans.length c_28, .bool f.common, .int .i64 f.mask, .slice A_29 f.bands.length c_30, .slice A_31 f.fill.length c_32]) 103 rfl rfl rfl sz26 (by simp [Value.oneCell']) rfl (Nat.le_of_ble_eq_true rfl) rfl ?_)
      refine T_nil ?_
      refine N_then ?_
      refine C_seq ?_
      refine C_drawS (S_23) [(101, .blk g_1 [.slice Af0 f.chans.length cf0, .bool f.common, .int .i64 f.mask, .slice Af3 f.bands.length cf3, .slice Af4 f.fill.length cf4] 26), (102, .blk g_2 [.slice Ao0 o.chans.length co0, .bool o.common, .int .i64 o.mask, .slice Ao3 o.bands.length co3, .slice Ao4 o.fill.length co4] 26), (103, .blk g_41 [.slice A_27 f.chans.length c_28, .bool f.common, .int .i64 f.mask, .slice A_29 f.bands.length c_30, .slice A_31 f.fill.length c_32] 26)] 13 (by kernel_rfl) rfl (fun h0_42 => ?_)
      refine A_take (i := 0) rfl (by kernel_rfl) (held_le ⟨rfl, rfl, rfl, trivial⟩ (ImLe.refl _) h0_42) rfl (pv_load_agg (cs := [.slice Af0 f.chans.length cf0, .bool f.common, .int .i64 f.mask, .slice Af3 f.bands.length cf3, .slice Af4 f.fill.length cf4]) rfl ag26 sz26 rfl ⟨Cell.blk 101 rfl rfl, Cell.blk 101 rfl rfl, Cell.blk 101 rfl rfl, Cell.blk 101 rfl rfl, Cell.blk 101 rfl rfl, trivial⟩) ?_
      refine A_take (i := 1) rfl (by kernel_rfl) (held_le ⟨rfl, rfl, rfl, trivial⟩ (ImLe.refl _) h0_42) rfl (pv_load_agg (cs := [.slice Ao0 o.chans.length co0, .bool o.common, .int .i64 o.mask, .slice Ao3 o.bands.length co3, .slice Ao4 o.fill.length co4]) rfl ag26 sz26 rfl ⟨Cell.blk 102 rfl rfl, Cell.blk 102 rfl rfl, Cell.blk 102 rfl rfl, Cell.blk 102 rfl rfl, Cell.blk 102 rfl rfl, trivial⟩) ?_
      refine A_take (i := 3) rfl (by kernel_rfl) (held_le ⟨rfl, rfl, rfl, trivial⟩ (ImLe.refl _) h0_42) rfl (pv_load_agg (cs := [.slice Af0 f.chans.length cf0, .bool f.common, .int .i64 f.mask, .slice Af3 f.bands.length cf3, .slice Af4 f.fill.length cf4]) rfl ag26 sz26 rfl ⟨Cell.blk 101 rfl rfl, Cell.blk 101 rfl rfl, Cell.blk 101 rfl rfl, Cell.blk 101 rfl rfl, Cell.blk 101 rfl rfl, trivial⟩) ?_
      refine A_take (i := 4) rfl (by kernel_rfl) (held_le ⟨rfl, rfl, rfl, trivial⟩ (ImLe.refl _) h0_42) rfl (pv_load_agg (cs := [.slice Ao0 o.chans.length co0, .bool o.common, .int .i64 o.mask, .slice Ao3 o.bands.length co3, .slice Ao4 o.fill.length co4]) rfl ag26 sz26 rfl ⟨Cell.blk 102 rfl rfl, Cell.blk 102 rfl rfl, Cell.blk 102 rfl rfl, Cell.blk 102 rfl rfl, Cell.blk 102 rfl rfl, trivial⟩) ?_
      refine A_one (i := 2) (by kernel_rfl) ?_
      refine AS_op rfl (op_call (fun _ h => by cases h; exact lt_of rfl) rfl rfl rfl en6 (f_raw_Same _ f _ _ (hf0.mono hle_24) hf2 _ _ (hf3.mono hle_24) _ _ (hf4.mono hle_24) o _ _ (ho0.mono hle_24) ho2 _ _ (ho3.mono hle_24) _ _ (ho4.mono hle_24)) [] trivial (by simp) (by decide) ?_)
      rintro v_46 S_44 L_47 ⟨r_43, rfl, rfl, rfl, rfl⟩ hle_45
      refine ⟨rfl, ?_⟩
      refine ⟨fun _ => (held_le ⟨rfl, rfl, rfl, trivial⟩ (ImLe.refl _) h0_42), ?_⟩
      refine A_one (i := 5) (by kernel_rfl) ?_
      refine AS_op rfl (op_call (fun _ h => by cases h; exact lt_of rfl) rfl rfl rfl en7 (f_r23_Same _ f _ _ (hf0.mono hle_24) hf2 _ _ (hf3.mono hle_24) _ _ (hf4.mono hle_24) o _ _ (ho0.mono hle_24) ho2 _ _ (ho3.mono hle_24) _ _ (ho4.mono hle_24)) [] trivial (by simp) (by decide) ?_)
      rintro v_51 S_49 L_52 ⟨r_48, rfl, rfl, rfl, rfl⟩ hle_50
      refine ⟨rfl, ?_⟩
      refine ⟨fun _ => (held_le ⟨rfl, rfl, rfl, trivial⟩ (ImLe.refl _) h0_42), ?_⟩
      refine A_take (i := 6) rfl (by kernel_rfl) (held_le ⟨rfl, rfl, rfl, trivial⟩ (ImLe.refl _) h0_42) rfl (pv_eqlbd rfl rfl un4) ?_
      refine A_take (i := 7) rfl (by kernel_rfl) (held_le ⟨rfl, rfl, rfl, trivial⟩ (ImLe.refl _) h0_42) rfl (pv_move rfl) ?_
      refine A_takey (i := 8) rfl (by kernel_rfl) (held_le ⟨rfl, rfl, rfl, trivial⟩ (ImLe.refl _) h0_42) rfl rfl rfl (decide_eq_true rfl) (pv_load_agg (cs := [.slice A_27 f.chans.length c_28, .bool f.common, .int .i64 f.mask, .slice A_29 f.bands.length c_30, .slice A_31 f.fill.length c_32]) rfl ag26 sz26 rfl ⟨Cell.blk 103 rfl rfl, Cell.blk 103 rfl rfl, Cell.blk 103 rfl rfl, Cell.blk 103 rfl rfl, Cell.blk 103 rfl rfl, trivial⟩) ?_
      refine A_takey (i := 9) rfl (by kernel_rfl) (held_le ⟨rfl, rfl, rfl, trivial⟩ (ImLe.refl _) h0_42) rfl rfl rfl (decide_eq_true rfl) (pv_load_agg (cs := [.slice Af0 f.chans.length cf0, .bool f.common, .int .i64 f.mask, .slice Af3 f.bands.length cf3, .slice Af4 f.fill.length cf4]) rfl ag26 sz26 rfl ⟨Cell.blk 101 rfl rfl, Cell.blk 101 rfl rfl, Cell.blk 101 rfl rfl, Cell.blk 101 rfl rfl, Cell.blk 101 rfl rfl, trivial⟩) ?_
      refine A_one (i := 10) (by kernel_rfl) ?_
      refine AS_opy rfl rfl rfl (decide_eq_true rfl) (op_call (fun _ h => by cases h; exact lt_of rfl) rfl rfl rfl en7 (f_r23_Same _ f _ _ h_33 h_34 _ _ h_35 _ _ h_36 f _ _ (hf0.mono hle_24) hf2 _ _ (hf3.mono hle_24) _ _ (hf4.mono hle_24)) [] trivial (by simp) (by decide) ?_)
      rintro v_56 S_54 L_57 ⟨r_53, rfl, rfl, rfl, rfl⟩ hle_55
      refine ⟨rfl, ?_⟩
      refine ⟨fun _ => (held_le ⟨rfl, rfl, rfl, trivial⟩ (ImLe.refl _) h0_42), ?_⟩
      refine A_take (i := 11) rfl (by kernel_rfl) (held_le ⟨rfl, rfl, rfl, trivial⟩ (ImLe.refl _) h0_42) rfl (pv_pick_t rfl (decide_eq_true rfl) rfl) ?_
      refine A_take (i := 12) rfl (by kernel_rfl) (held_le ⟨rfl, rfl, rfl, trivial⟩ (ImLe.refl _) h0_42) rfl (pv_assign rfl) ?_
      refine A_done (by kernel_rfl) ?_
      refine N_then ?_
      refine C_seq ?_
      refine C_region rfl ?_
      refine T_pv rfl (pv_load_agg (cs := [.slice Af0 f.chans.length cf0, .bool f.common, .int .i64 f.mask, .slice Af3 f.bands.length cf3, .slice Af4 f.fill.length cf4]) rfl ag26 sz26 rfl ⟨Cell.blk 101 rfl rfl, Cell.blk 101 rfl rfl, Cell.blk 101 rfl rfl, Cell.blk 101 rfl rfl, Cell.blk 101 rfl rfl, trivial⟩) ?_
      refine T_cons (op_call (fun _ h => by cases h; exact lt_of rfl) rfl rfl rfl en8 (f_r23_Twin _ f _ _ (hf0.mono hle_24) hf2 _ _ (hf3.mono hle_24) _ _ (hf4.mono hle_24) sm) [] trivial (by simp) (by decide) ?_)
      rintro v_63 S_61 L_64 ⟨us_58, r_59, rfl, rfl, rfl, h_60⟩ hle_62
      obtain ⟨A_65, c_66, A_67, c_68, A_69, c_70, rfl, h_71, h_72, h_73, h_74⟩ := h_60
      have hb_75 := h_71.bd
      have hq_76 := InR.i64 h_72
      have hb_77 := h_73.bd
      have hb_78 := h_74.bd
      refine ⟨rfl, ?_⟩
      refine T_cons (op_alloc (cs := [.slice none 0 0, .bool false, .int .i64 0, .slice none 0 0, .slice none 0 0]) (lt_of rfl) 104 zr26 rfl fun g_79 => ?_)
      refine T_cons (op_store_any (vs := [.slice A_65 f.chans.length c_66, .bool f.common, .int .i64 f.mask, .slice A_67 f.bands.length c_68, .slice A_69 f.fill.length c_70]) (cs' := [.slice A_65 f.chans.length c_66, .bool f.common, .int .i64 f.mask, .slice A_67 f.bands.length c_68, .slice A_69 f.fill.length c_70]) 104 rfl rfl rfl sz26 (by simp [Value.oneCell']) rfl (Nat.le_of_ble_eq_true rfl) rfl ?_)
      refine T_nil ?_
      refine N_then ?_
      refine C_seq ?_
      refine C_seq ?_
      refine C_region rfl ?_
      refine T_pv rfl (pv_assign rfl) ?_
      refine T_nil ?_
      refine N_then ?_
      refine C_block ?_
      have hn0 : (f.chans.map tl).length = f.chans.length := by simp
      have hn3 : (f.bands.map shp).length = f.bands.length := by simp
      have hn4 : (shp f.fill).length = f.fill.length := shp_length _
      obtain ⟨Act, cct, ect, hct⟩ := hf_20
      simp only [List.getElem?_cons_succ, List.getElem?_cons_zero, Option.some.injEq, Value.slice.injEq, true_and] at ect
      obtain ⟨rfl, rfl⟩ := ect
      obtain ⟨Acb, ccb, ecb, hcb⟩ := hf_21
      simp only [List.getElem?_cons_succ, List.getElem?_cons_zero, Option.some.injEq, Value.slice.injEq, true_and] at ecb
      obtain ⟨rfl, rfl⟩ := ecb
      obtain ⟨Acf, ccf, ecf, hcf⟩ := hf_22
      simp only [List.getElem?_cons_succ, List.getElem?_cons_zero, Option.some.injEq, Value.slice.injEq, true_and] at ecf
      obtain ⟨rfl, rfl⟩ := ecf
      have tw0 : TwI S S_23 S_61 S_61 A_27 A_29 A_31 c_28 c_30 c_32 f := ⟨(ImLe.trans hle_24 hle_62), Im.minus_le, RdA.mono hct (Im.minus_cut hle_62), RdA.mono hcb.anyBB (Im.minus_cut hle_62), RdA.mono hcf.anyI (Im.minus_cut hle_62)⟩
      refine C_loop (fun (x : Int × Im) => (x.2, [(101, .blk g_1 [.slice Af0 f.chans.length cf0, .bool f.common, .int .i64 f.mask, .slice Af3 f.bands.length cf3, .slice Af4 f.fill.length cf4] 26), (102, .blk g_2 [.slice Ao0 o.chans.length co0, .bool o.common, .int .i64 o.mask, .slice Ao3 o.bands.length co3, .slice Ao4 o.fill.length co4] 26), (103, .blk g_41 [.slice A_27 f.chans.length c_28, .bool f.common, .int .i64 f.mask, .slice A_29 f.bands.length c_30, .slice A_31 f.fill.length c_32] 26), (104, .blk g_79 [.slice A_65 f.chans.length c_66, .bool f.common, .int .i64 f.mask, .slice A_67 f.bands.length c_68, .slice A_69 f.fill.length c_70] 26)], [(0, .agg #[.slice Af0 f.chans.length cf0, .bool f.common, .int .i64 f.mask, .slice Af3 f.bands.length cf3, .slice Af4 f.fill.length cf4]), (1, .agg #[.slice Ao0 o.chans.length co0, .bool o.common, .int .i64 o.mask, .slice Ao3 o.bands.length co3, .slice Ao4 o.fill.length co4]), (2, .pointer (some ⟨g_1, 0, none⟩)), (3, .pointer (some ⟨g_2, 0, none⟩)), (4, .bool false), (13, .agg #[.slice Af0 f.chans.length cf0, .bool f.common, .int .i64 f.mask, .slice Af3 f.bands.length cf3, .slice Af4 f.fill.length cf4]), (14, .bool r_3), (15, .bool r_3), (16, .agg #[.slice Ao0 o.chans.length co0, .bool o.common, .int .i64 o.mask, .slice Ao3 o.bands.length co3, .slice Ao4 o.fill.length co4]), (17, .bool r_10), (18, .bool r_10), (19, .agg #[.slice Af0 f.chans.length cf0, .bool f.common, .int .i64 f.mask, .slice Af3 f.bands.length cf3, .slice Af4 f.fill.length cf4]), (20, .agg #[.slice A_27 f.chans.length c_28, .bool f.common, .int .i64 f.mask, .slice A_29 f.bands.length c_30, .slice A_31 f.fill.length c_32]), (5, .pointer (some ⟨g_41, 0, none⟩)), (21, .agg #[.slice Af0 f.chans.length cf0, .bool f.common, .int .i64 f.mask, .slice Af3 f.bands.length cf3, .slice Af4 f.fill.length cf4]), (22, .agg #[.slice Ao0 o.chans.length co0, .bool o.common, .int .i64 o.mask, .slice Ao3 o.bands.length co3, .slice Ao4 o.fill.length co4]), (24, .agg #[.slice Af0 f.chans.length cf0, .bool f.common, .int .i64 f.mask, .slice Af3 f.bands.length cf3, .slice Af4 f.fill.length cf4]), (25, .agg #[.slice Ao0 o.chans.length co0, .bool o.common, .int .i64 o.mask, .slice Ao3 o.bands.length co3, .slice Ao4 o.fill.length co4]), (23, .bool (decide (f = o))), (26, .bool (decide (f = o))), (27, .bool (decide ((decide (f = o)) = (decide (f = o))))), (28, .bool (decide ((decide (f = o)) = (decide (f = o))))), (29, .agg #[.slice A_27 f.chans.length c_28, .bool f.common, .int .i64 f.mask, .slice A_29 f.bands.length c_30, .slice A_31 f.fill.length c_32]), (30, .agg #[.slice Af0 f.chans.length cf0, .bool f.common, .int .i64 f.mask, .slice Af3 f.bands.length cf3, .slice Af4 f.fill.length cf4]), (31, .bool (decide (f = f))), (32, .bool (decide (f = f))), (6, .bool (decide (f = f))), (33, .agg #[.slice Af0 f.chans.length cf0, .bool f.common, .int .i64 f.mask, .slice Af3 f.bands.length cf3, .slice Af4 f.fill.length cf4]), (34, .agg #[.slice A_65 f.chans.length c_66, .bool f.common, .int .i64 f.mask, .slice A_67 f.bands.length c_68, .slice A_69 f.fill.length c_70]), (7, .pointer (some ⟨g_79, 0, none⟩)), (8, .int .i64 x.1)])) (fun (x : Int × Im) => ImLe S x.2 ∧ 0 ≤ x.1 ∧ x.1 ≤ f.chans.length ∧ TwI S S_23 S_61 x.2 A_27 A_29 A_31 c_28 c_30 c_32 f) (fun (x : Int × Im) => (f.chans.length - x.1).toNat) ((0, S_61)) ⟨(ImLe.trans hle_24 hle_62), ⟨by omega, by omega, tw0⟩⟩ rfl ⟨rfl, rfl, rfl, rfl, trivial⟩ ⟨rfl, rfl, rfl, rfl, rfl, rfl, rfl, rfl, rfl, rfl, rfl, rfl, rfl, rfl, rfl, rfl, rfl, rfl, rfl, rfl, rfl, rfl, rfl, rfl, rfl, rfl, rfl, rfl, rfl, rfl, rfl, trivial⟩ ?_
      rintro ⟨i, U0⟩ ⟨hle_80, ⟨q0, q1, q2⟩⟩
      dsimp only at *
      refine C_seq ?_
      refine C_seq ?_
      refine C_region rfl ?_
      refine T_pv rfl (pv_move rfl) ?_
      refine T_pv rfl (pv_fieldAddr rfl fl_26_0) ?_
      refine T_pv rfl (pv_load rfl ag22 (Cell.blk 103 rfl rfl)) ?_
      refine T_pv rfl (pv_len rfl el22) ?_
      refine T_pv rfl (pv_lss rfl rfl) ?_
      refine T_nil ?_
      refine N_then ?_
      refine C_cond rfl (fun hb_81 => ?_) (fun hb_81 => ?_)
      · -- decide (i < (f.chans.length : Int)) = true
        have hx_82 := of_decide_eq_true hb_81
        refine C_skip ?_
        refine N_then ?_
        refine C_seq ?_
        refine C_block ?_
        refine C_seq ?_
        refine C_region rfl ?_
        refine T_pv rfl (pv_fieldAddr rfl fl_26_0) ?_
        refine T_pv rfl (pv_load rfl ag22 (Cell.blk 103 rfl rfl)) ?_
        refine T_pv rfl (pv_move rfl) ?_
        obtain ⟨us_83, hk_84, he_85⟩ := RdA.elt q2.ch (i := i) (by omega) (by omega)
        obtain ⟨n_86, us_87, A_88, c_89, rfl, h_90, h_91, h_92, h_93⟩ := hk_84
        obtain ⟨a_94, a_95, a_96, a_97, a_98, a_99, a_100, rfl⟩ := list7 h_91
        have hb_101 := h_93.bd
        refine T_pv rfl (pv_idxn q2.ch hn0 rfl rfl el22 sz37 (by omega) (by omega)) ?_
        refine T_pv rfl (pv_fieldAddr rfl fl_37_0) ?_
        refine T_pv rfl (pv_load rfl ag3 ((he_85 _ _ Im.cut_le).at_ 0 rfl)) ?_
        refine T_pv rfl (pv_addw rfl rfl) ?_
        refine T_pv rfl (pv_idxn q2.ch hn0 rfl rfl el22 sz37 (by omega) (by omega)) ?_
        refine T_pv rfl (pv_fieldAddr rfl fl_37_0) ?_
        obtain ⟨g_102, cs_103, T_104, fr_105, o_106, had_107, hg_108, hg_109, hlt_110, htw_111⟩ := TwI.at_ q2 q2.ch (i := i) (by omega) (by omega) 0 (v := .int .i64 (IntKind.wrap .i64 (n_86 + 1))) (fun us x hk => by obtain ⟨n, us, A, c, rfl, h1, h2, h3, h4⟩ := hk; exact ⟨_, rfl, .inr (.inl ⟨_, _, _, rfl, rfl, inR_wrap _ _⟩)⟩)
        refine T_cons (op_storeAt rfl had_107 rfl rfl sz3 rfl hg_108 hg_109 hlt_110 ?_)
        generalize hV_113 : Im.put U0 g_102 (.cells (cs_103.setIfInBounds o_106 (.int .i64 (IntKind.wrap .i64 (n_86 + 1)))) T_104 fr_105) = V_112 at htw_111 ⊢
        refine T_nil ?_
        refine N_then ?_
        refine C_seq ?_
        refine C_region rfl ?_
        refine T_pv rfl (pv_assign rfl) ?_
        refine T_nil ?_
        refine N_then ?_
        refine C_block ?_
        refine C_loop (fun (x : Int × Im) => (x.2, [(101, .blk g_1 [.slice Af0 f.chans.length cf0, .bool f.common, .int .i64 f.mask, .slice Af3 f.bands.length cf3, .slice Af4 f.fill.length cf4] 26), (102, .blk g_2 [.slice Ao0 o.chans.length co0, .bool o.common, .int .i64 o.mask, .slice Ao3 o.bands.length co3, .slice Ao4 o.fill.length co4] 26), (103, .blk g_41 [.slice A_27 f.chans.length c_28, .bool f.common, .int .i64 f.mask, .slice A_29 f.bands.length c_30, .slice A_31 f.fill.length c_32] 26), (104, .blk g_79 [.slice A_65 f.chans.length c_66, .bool f.common, .int .i64 f.mask, .slice A_67 f.bands.length c_68, .slice A_69 f.fill.length c_70] 26)], [(0, .agg #[.slice Af0 f.chans.length cf0, .bool f.common, .int .i64 f.mask, .slice Af3 f.bands.length cf3, .slice Af4 f.fill.length cf4]), (1, .agg #[.slice Ao0 o.chans.length co0, .bool o.common, .int .i64 o.mask, .slice Ao3 o.bands.length co3, .slice Ao4 o.fill.length co4]), (2, .pointer (some ⟨g_1, 0, none⟩)), (3, .pointer (some ⟨g_2, 0, none⟩)), (4, .bool false), (13, .agg #[.slice Af0 f.chans.length cf0, .bool f.common, .int .i64 f.mask, .slice Af3 f.bands.length cf3, .slice Af4 f.fill.length cf4]), (14, .bool r_3), (15, .bool r_3), (16, .agg #[.slice Ao0 o.chans.length co0, .bool o.common, .int .i64 o.mask, .slice Ao3 o.bands.length co3, .slice Ao4 o.fill.length co4]), (17, .bool r_10), (18, .bool r_10), (19, .agg #[.slice Af0 f.chans.length cf0, .bool f.common, .int .i64 f.mask, .slice Af3 f.bands.length cf3, .slice Af4 f.fill.length cf4]), (20, .agg #[.slice A_27 f.chans.length c_28, .bool f.common, .int .i64 f.mask, .slice A_29 f.bands.length c_30, .slice A_31 f.fill.length c_32]), (5, .pointer (some ⟨g_41, 0, none⟩)), (21, .agg #[.slice Af0 f.chans.length cf0, .bool f.common, .int .i64 f.mask, .slice Af3 f.bands.length cf3, .slice Af4 f.fill.length cf4]), (22, .agg #[.slice Ao0 o.chans.length co0, .bool o.common, .int .i64 o.mask, .slice Ao3 o.bands.length co3, .slice Ao4 o.fill.length co4]), (24, .agg #[.slice Af0 f.chans.length cf0, .bool f.common, .int .i64 f.mask, .slice Af3 f.bands.length cf3, .slice Af4 f.fill.length cf4]), (25, .agg #[.slice Ao0 o.chans.length co0, .bool o.common, .int .i64 o.mask, .slice Ao3 o.bands.length co3, .slice Ao4 o.fill.length co4]), (23, .bool (decide (f = o))), (26, .bool (decide (f = o))), (27, .bool (decide ((decide (f = o)) = (decide (f = o))))), (28, .bool (decide ((decide (f = o)) = (decide (f = o))))), (29, .agg #[.slice A_27 f.chans.length c_28, .bool f.common, .int .i64 f.mask, .slice A_29 f.bands.length c_30, .slice A_31 f.fill.length c_32]), (30, .agg #[.slice Af0 f.chans.length cf0, .bool f.common, .int .i64 f.mask, .slice Af3 f.bands.length cf3, .slice Af4 f.fill.length cf4]), (31, .bool (decide (f = f))), (32, .bool (decide (f = f))), (6, .bool (decide (f = f))), (33, .agg #[.slice Af0 f.chans.length cf0, .bool f.common, .int .i64 f.mask, .slice Af3 f.bands.length cf3, .slice Af4 f.fill.length cf4]), (34, .agg #[.slice A_65 f.chans.length c_66, .bool f.common, .int .i64 f.mask, .slice A_67 f.bands.length c_68, .slice A_69 f.fill.length c_70]), (7, .pointer (some ⟨g_79, 0, none⟩)), (8, .int .i64 i), (35, .int .i64 i), (36, .pointer (some ⟨g_41, 0, none⟩)), (37, .slice A_27 f.chans.length c_28), (38, .int .i64 (f.chans.length : Int)), (39, .bool (decide (i < (f.chans.length : Int)))), (42, .pointer (some ⟨g_41, 0, none⟩)), (43, .slice A_27 f.chans.length c_28), (44, .int .i64 i), (45, .pointer (some (adr A_27 ((i).toNat * 9)))), (46, .pointer (some ((adr A_27 ((i).toNat * 9)).add 0))), (47, .int .i64 n_86), (48, .int .i64 (IntKind.wrap .i64 (n_86 + 1))), (49, .pointer (some (adr A_27 ((i).toNat * 9)))), (50, .pointer (some ((adr A_27 ((i).toNat * 9)).add 0))), (9, .int .i64 x.1)])) (fun (x : Int × Im) => ImLe S x.2 ∧ 0 ≤ x.1 ∧ x.1 ≤ ((f.chans.map tl).getD (i).toNat default).length ∧ TwI S S_23 S_61 x.2 A_27 A_29 A_31 c_28 c_30 c_32 f) (fun (x : Int × Im) => (((f.chans.map tl).getD (i).toNat default).length - x.1).toNat) ((0, V_112)) ⟨htw_111.a, ⟨by omega, by omega, htw_111⟩⟩ rfl ⟨rfl, rfl, rfl, rfl, trivial⟩ ⟨rfl, rfl, rfl, rfl, rfl, rfl, rfl, rfl, rfl, rfl, rfl, rfl, rfl, rfl, rfl, rfl, rfl, rfl, rfl, rfl, rfl, rfl, rfl, rfl, rfl, rfl, rfl, rfl, rfl, rfl, rfl, rfl, rfl, rfl, rfl, rfl, rfl, rfl, rfl, rfl, rfl, rfl, rfl, rfl, rfl, rfl, trivial⟩ ?_
        rintro ⟨k, U1⟩ ⟨hle_114, ⟨s0, s1, s2⟩⟩
        dsimp only at *
        refine C_seq ?_
        refine C_seq ?_
        refine C_region rfl ?_
        refine T_pv rfl (pv_move rfl) ?_
        refine T_pv rfl (pv_fieldAddr rfl fl_26_0) ?_
        refine T_pv rfl (pv_load rfl ag22 (Cell.blk 103 rfl rfl)) ?_
        refine T_pv rfl (pv_move rfl) ?_
        obtain ⟨us_115, hk_116, he_117⟩ := RdA.elt s2.ch (i := i) (by omega) (by omega)
        obtain ⟨n_118, us_119, A_120, c_121, rfl, h_122, h_123, h_124, h_125⟩ := hk_116
        obtain ⟨a_126, a_127, a_128, a_129, a_130, a_131, a_132, rfl⟩ := list7 h_123
        have hb_133 := h_125.bd
        refine T_pv rfl (pv_idxn s2.ch hn0 rfl rfl el22 sz37 (by omega) (by omega)) ?_
        refine T_pv rfl (pv_fieldAddr rfl fl_37_5) ?_
        refine T_pv rfl (pv_load rfl ag30 ((he_117 _ _ Im.cut_le).at_ 8 rfl)) ?_
        refine T_pv rfl (pv_len rfl el30) ?_
        refine T_pv rfl (pv_lss rfl rfl) ?_
        refine T_nil ?_
        refine N_then ?_
        refine C_cond rfl (fun hb_134 => ?_) (fun hb_134 => ?_)
        · -- decide (k < (((f.chans.map tl).getD (i).toNat default).length : Int)) = true
          have hx_135 := of_decide_eq_true hb_134
          refine C_skip ?_
          refine N_then ?_
          refine C_seq ?_
          refine C_block ?_
          refine C_region rfl ?_
          refine T_pv rfl (pv_fieldAddr rfl fl_26_0) ?_
          refine T_pv rfl (pv_load rfl ag22 (Cell.blk 103 rfl rfl)) ?_
          refine T_pv rfl (pv_move rfl) ?_
          refine T_pv rfl (pv_idxn s2.ch hn0 rfl rfl el22 sz37 (by omega) (by omega)) ?_
          refine T_pv rfl (pv_fieldAddr rfl fl_37_5) ?_
          refine T_pv rfl (pv_load rfl ag30 ((he_117 _ _ Im.cut_le).at_ 8 rfl)) ?_
          refine T_pv rfl (pv_move rfl) ?_
          obtain ⟨us_136, hk_137, he_138⟩ := RdA.elt h_125 (i := k) (by omega) (by omega)
          obtain ⟨n_139, rfl, h_140⟩ := hk_137
          have hq_141 := InR.i64 h_140
          refine T_pv rfl (pv_idx h_125 rfl rfl el30 sz3 (by omega) (by omega)) ?_
          refine T_pv rfl (pv_load rfl ag3 ((he_138 _ _ Im.cut_le).zero rfl)) ?_
          refine T_pv rfl (pv_addw rfl rfl) ?_
          refine T_pv rfl (pv_idx h_125 rfl rfl el30 sz3 (by omega) (by omega)) ?_
          obtain ⟨g_142, cs_143, T_144, fr_145, o_146, had_147, hg_148, hg_149, hlt_150, htw_151⟩ := TwI.at_ s2 h_125 (i := k) (by omega) (by omega) 0 (v := .int .i64 (IntKind.wrap .i64 (n_139 + 1))) (fun us x hk => by obtain ⟨n, rfl, h⟩ := hk; exact ⟨_, rfl, .inr (.inl ⟨_, _, _, rfl, rfl, inR_wrap _ _⟩)⟩)
          refine T_cons (op_storeAt rfl (add_zero.symm.trans had_147) rfl rfl sz3 rfl hg_148 hg_149 hlt_150 ?_)
          generalize hV_153 : Im.put U1 g_142 (.cells (cs_143.setIfInBounds o_146 (.int .i64 (IntKind.wrap .i64 (n_139 + 1)))) T_144 fr_145) = V_152 at htw_151 ⊢
          refine T_nil ?_
          refine N_block ?_
          refine N_then ?_
          refine C_region rfl ?_
          refine T_pv rfl (pv_move rfl) ?_
          have hr_154 : InR .i64 (k + 1) := inR_i64 (by omega) (by omega)
          refine T_pv rfl (pv_add rfl rfl hr_154) ?_
          refine T_pv rfl (pv_assign rfl) ?_
          refine T_nil ?_
          refine N_next ((k + 1, V_152)) ⟨htw_151.a, ⟨by omega, by omega, htw_151⟩⟩ (by first | omega | (dsimp only; omega)) rfl ⟨rfl, rfl, rfl, rfl, trivial⟩ ⟨rfl, rfl, rfl, rfl, rfl, rfl, rfl, rfl, rfl, rfl, rfl, rfl, rfl, rfl, rfl, rfl, rfl, rfl, rfl, rfl, rfl, rfl, rfl, rfl, rfl, rfl, rfl, rfl, rfl, rfl, rfl, rfl, rfl, rfl, rfl, rfl, rfl, rfl, rfl, rfl, rfl, rfl, rfl, rfl, rfl, rfl, trivial⟩
        · -- decide (k < (((f.chans.map tl).getD (i).toNat default).length : Int)) = false
          have hx_155 := of_decide_eq_false hb_134
          refine C_exit ?_
          refine X_then ?_
          refine X_loop ?_
          refine X_block ?_
          refine N_block ?_
          refine N_then ?_
          refine C_region rfl ?_
          refine T_pv rfl (pv_move rfl) ?_
          have hr_156 : InR .i64 (i + 1) := inR_i64 (by omega) (by omega)
          refine T_pv rfl (pv_add rfl rfl hr_156) ?_
          refine T_pv rfl (pv_assign rfl) ?_
          refine T_nil ?_
          refine N_next ((i + 1, U1)) ⟨hle_114, ⟨by omega, by omega, s2⟩⟩ (by first | omega | (dsimp only; omega)) rfl ⟨rfl, rfl, rfl, rfl, trivial⟩ ⟨rfl, rfl, rfl, rfl, rfl, rfl, rfl, rfl, rfl, rfl, rfl, rfl, rfl, rfl, rfl, rfl, rfl, rfl, rfl, rfl, rfl, rfl, rfl, rfl, rfl, rfl, rfl, rfl, rfl, rfl, rfl, trivial⟩
      · -- decide (i < (f.chans.length : Int)) = false
        have hx_157 := of_decide_eq_false hb_81
        refine C_exit ?_
        refine X_then ?_
        refine X_loop ?_
        refine X_block ?_
        refine N_then ?_
        refine C_seq ?_
        refine C_seq ?_
        refine C_region rfl ?_
        refine T_pv rfl (pv_assign rfl) ?_
        refine T_nil ?_
        refine N_then ?_
        refine C_block ?_
        refine C_loop (fun (x : Int × Im) => (x.2, [(101, .blk g_1 [.slice Af0 f.chans.length cf0, .bool f.common, .int .i64 f.mask, .slice Af3 f.bands.length cf3, .slice Af4 f.fill.length cf4] 26), (102, .blk g_2 [.slice Ao0 o.chans.length co0, .bool o.common, .int .i64 o.mask, .slice Ao3 o.bands.length co3, .slice Ao4 o.fill.length co4] 26), (103, .blk g_41 [.slice A_27 f.chans.length c_28, .bool f.common, .int .i64 f.mask, .slice A_29 f.bands.length c_30, .slice A_31 f.fill.length c_32] 26), (104, .blk g_79 [.slice A_65 f.chans.length c_66, .bool f.common, .int .i64 f.mask, .slice A_67 f.bands.length c_68, .slice A_69 f.fill.length c_70] 26)], [(0, .agg #[.slice Af0 f.chans.length cf0, .bool f.common, .int .i64 f.mask, .slice Af3 f.bands.length cf3, .slice Af4 f.fill.length cf4]), (1, .agg #[.slice Ao0 o.chans.length co0, .bool o.common, .int .i64 o.mask, .slice Ao3 o.bands.length co3, .slice Ao4 o.fill.length co4]), (2, .pointer (some ⟨g_1, 0, none⟩)), (3, .pointer (some ⟨g_2, 0, none⟩)), (4, .bool false), (13, .agg #[.slice Af0 f.chans.length cf0, .bool f.common, .int .i64 f.mask, .slice Af3 f.bands.length cf3, .slice Af4 f.fill.length cf4]), (14, .bool r_3), (15, .bool r_3), (16, .agg #[.slice Ao0 o.chans.length co0, .bool o.common, .int .i64 o.mask, .slice Ao3 o.bands.length co3, .slice Ao4 o.fill.length co4]), (17, .bool r_10), (18, .bool r_10), (19, .agg #[.slice Af0 f.chans.length cf0, .bool f.common, .int .i64 f.mask, .slice Af3 f.bands.length cf3, .slice Af4 f.fill.length cf4]), (20, .agg #[.slice A_27 f.chans.length c_28, .bool f.common, .int .i64 f.mask, .slice A_29 f.bands.length c_30, .slice A_31 f.fill.length c_32]), (5, .pointer (some ⟨g_41, 0, none⟩)), (21, .agg #[.slice Af0 f.chans.length cf0, .bool f.common, .int .i64 f.mask, .slice Af3 f.bands.length cf3, .slice Af4 f.fill.length cf4]), (22, .agg #[.slice Ao0 o.chans.length co0, .bool o.common, .int .i64 o.mask, .slice Ao3 o.bands.length co3, .slice Ao4 o.fill.length co4]), (24, .agg #[.slice Af0 f.chans.length cf0, .bool f.common, .int .i64 f.mask, .slice Af3 f.bands.length cf3, .slice Af4 f.fill.length cf4]), (25, .agg #[.slice Ao0 o.chans.length co0, .bool o.common, .int .i64 o.mask, .slice Ao3 o.bands.length co3, .slice Ao4 o.fill.length co4]), (23, .bool (decide (f = o))), (26, .bool (decide (f = o))), (27, .bool (decide ((decide (f = o)) = (decide (f = o))))), (28, .bool (decide ((decide (f = o)) = (decide (f = o))))), (29, .agg #[.slice A_27 f.chans.length c_28, .bool f.common, .int .i64 f.mask, .slice A_29 f.bands.length c_30, .slice A_31 f.fill.length c_32]), (30, .agg #[.slice Af0 f.chans.length cf0, .bool f.common, .int .i64 f.mask, .slice Af3 f.bands.length cf3, .slice Af4 f.fill.length cf4]), (31, .bool (decide (f = f))), (32, .bool (decide (f = f))), (6, .bool (decide (f = f))), (33, .agg #[.slice Af0 f.chans.length cf0, .bool f.common, .int .i64 f.mask, .slice Af3 f.bands.length cf3, .slice Af4 f.fill.length cf4]), (34, .agg #[.slice A_65 f.chans.length c_66, .bool f.common, .int .i64 f.mask, .slice A_67 f.bands.length c_68, .slice A_69 f.fill.length c_70]), (7, .pointer (some ⟨g_79, 0, none⟩)), (8, .int .i64 i), (35, .int .i64 i), (36, .pointer (some ⟨g_41, 0, none⟩)), (37, .slice A_27 f.chans.length c_28), (38, .int .i64 (f.chans.length : Int)), (39, .bool (decide (i < (f.chans.length : Int)))), (10, .int .i64 x.1)])) (fun (x : Int × Im) => ImLe S x.2 ∧ 0 ≤ x.1 ∧ x.1 ≤ f.bands.length ∧ TwI S S_23 S_61 x.2 A_27 A_29 A_31 c_28 c_30 c_32 f) (fun (x : Int × Im) => (f.bands.length - x.1).toNat) ((0, U0)) ⟨hle_80, ⟨by omega, by omega, q2⟩⟩ rfl ⟨rfl, rfl, rfl, rfl, trivial⟩ ⟨rfl, rfl, rfl, rfl, rfl, rfl, rfl, rfl, rfl, rfl, rfl, rfl, rfl, rfl, rfl, rfl, rfl, rfl, rfl, rfl, rfl, rfl, rfl, rfl, rfl, rfl, rfl, rfl, rfl, rfl, rfl, rfl, rfl, rfl, rfl, rfl, rfl, trivial⟩ ?_
        rintro ⟨u, U2⟩ ⟨hle_158, ⟨t0, t1, t2⟩⟩
        dsimp only at *
        refine C_seq ?_
        refine C_seq ?_
        refine C_region rfl ?_
        refine T_pv rfl (pv_move rfl) ?_
        refine T_pv rfl (pv_fieldAddr rfl fl_26_3) ?_
        refine T_pv rfl (pv_load rfl ag23 (Cell.blk 103 rfl rfl)) ?_
        refine T_pv rfl (pv_len rfl el23) ?_
        refine T_pv rfl (pv_lss rfl rfl) ?_
        refine T_nil ?_
        refine N_then ?_
        refine C_cond rfl (fun hb_159 => ?_) (fun hb_159 => ?_)
        · -- decide (u < (f.bands.length : Int)) = true
          have hx_160 := of_decide_eq_true hb_159
          refine C_skip ?_
          refine N_then ?_
          refine C_seq ?_
          refine C_block ?_
          refine C_seq ?_
          refine C_region rfl ?_
          refine T_pv rfl (pv_assign rfl) ?_
          refine T_nil ?_
          refine N_then ?_
          refine C_block ?_
          refine C_loop (fun (x : Int × Im) => (x.2, [(101, .blk g_1 [.slice Af0 f.chans.length cf0, .bool f.common, .int .i64 f.mask, .slice Af3 f.bands.length cf3, .slice Af4 f.fill.length cf4] 26), (102, .blk g_2 [.slice Ao0 o.chans.length co0, .bool o.common, .int .i64 o.mask, .slice Ao3 o.bands.length co3, .slice Ao4 o.fill.length co4] 26), (103, .blk g_41 [.slice A_27 f.chans.length c_28, .bool f.common, .int .i64 f.mask, .slice A_29 f.bands.length c_30, .slice A_31 f.fill.length c_32] 26), (104, .blk g_79 [.slice A_65 f.chans.length c_66, .bool f.common, .int .i64 f.mask, .slice A_67 f.bands.length c_68, .slice A_69 f.fill.length c_70] 26)], [(0, .agg #[.slice Af0 f.chans.length cf0, .bool f.common, .int .i64 f.mask, .slice Af3 f.bands.length cf3, .slice Af4 f.fill.length cf4]), (1, .agg #[.slice Ao0 o.chans.length co0, .bool o.common, .int .i64 o.mask, .slice Ao3 o.bands.length co3, .slice Ao4 o.fill.length co4]), (2, .pointer (some ⟨g_1, 0, none⟩)), (3, .pointer (some ⟨g_2, 0, none⟩)), (4, .bool false), (13, .agg #[.slice Af0 f.chans.length cf0, .bool f.common, .int .i64 f.mask, .slice Af3 f.bands.length cf3, .slice Af4 f.fill.length cf4]), (14, .bool r_3), (15, .bool r_3), (16, .agg #[.slice Ao0 o.chans.length co0, .bool o.common, .int .i64 o.mask, .slice Ao3 o.bands.length co3, .slice Ao4 o.fill.length co4]), (17, .bool r_10), (18, .bool r_10), (19, .agg #[.slice Af0 f.chans.length cf0, .bool f.common, .int .i64 f.mask, .slice Af3 f.bands.length cf3, .slice Af4 f.fill.length cf4]), (20, .agg #[.slice A_27 f.chans.length c_28, .bool f.common, .int .i64 f.mask, .slice A_29 f.bands.length c_30, .slice A_31 f.fill.length c_32]), (5, .pointer (some ⟨g_41, 0, none⟩)), (21, .agg #[.slice Af0 f.chans.length cf0, .bool f.common, .int .i64 f.mask, .slice Af3 f.bands.length cf3, .slice Af4 f.fill.length cf4]), (22, .agg #[.slice Ao0 o.chans.length co0, .bool o.common, .int .i64 o.mask, .slice Ao3 o.bands.length co3, .slice Ao4 o.fill.length co4]), (24, .agg #[.slice Af0 f.chans.length cf0, .bool f.common, .int .i64 f.mask, .slice Af3 f.bands.length cf3, .slice Af4 f.fill.length cf4]), (25, .agg #[.slice Ao0 o.chans.length co0, .bool o.common, .int .i64 o.mask, .slice Ao3 o.bands.length co3, .slice Ao4 o.fill.length co4]), (23, .bool (decide (f = o))), (26, .bool (decide (f = o))), (27, .bool (decide ((decide (f = o)) = (decide (f = o))))), (28, .bool (decide ((decide (f = o)) = (decide (f = o))))), (29, .agg #[.slice A_27 f.chans.length c_28, .bool f.common, .int .i64 f.mask, .slice A_29 f.bands.length c_30, .slice A_31 f.fill.length c_32]), (30, .agg #[.slice Af0 f.chans.length cf0, .bool f.common, .int .i64 f.mask, .slice Af3 f.bands.length cf3, .slice Af4 f.fill.length cf4]), (31, .bool (decide (f = f))), (32, .bool (decide (f = f))), (6, .bool (decide (f = f))), (33, .agg #[.slice Af0 f.chans.length cf0, .bool f.common, .int .i64 f.mask, .slice Af3 f.bands.length cf3, .slice Af4 f.fill.length cf4]), (34, .agg #[.slice A_65 f.chans.length c_66, .bool f.common, .int .i64 f.mask, .slice A_67 f.bands.length c_68, .slice A_69 f.fill.length c_70]), (7, .pointer (some ⟨g_79, 0, none⟩)), (8, .int .i64 i), (35, .int .i64 i), (36, .pointer (some ⟨g_41, 0, none⟩)), (37, .slice A_27 f.chans.length c_28), (38, .int .i64 (f.chans.length : Int)), (39, .bool (decide (i < (f.chans.length : Int)))), (10, .int .i64 u), (73, .int .i64 u), (74, .pointer (some ⟨g_41, 3, none⟩)), (75, .slice A_29 f.bands.length c_30), (76, .int .i64 (f.bands.length : Int)), (77, .bool (decide (u < (f.bands.length : Int)))), (11, .int .i64 x.1)])) (fun (x : Int × Im) => ImLe S x.2 ∧ 0 ≤ x.1 ∧ x.1 ≤ ((f.bands.map shp).getD (u).toNat default).length ∧ TwI S S_23 S_61 x.2 A_27 A_29 A_31 c_28 c_30 c_32 f) (fun (x : Int × Im) => (((f.bands.map shp).getD (u).toNat default).length - x.1).toNat) ((0, U2)) ⟨hle_158, ⟨by omega, by omega, t2⟩⟩ rfl ⟨rfl, rfl, rfl, rfl, trivial⟩ ⟨rfl, rfl, rfl, rfl, rfl, rfl, rfl, rfl, rfl, rfl, rfl, rfl, rfl, rfl, rfl, rfl, rfl, rfl, rfl, rfl, rfl, rfl, rfl, rfl, rfl, rfl, rfl, rfl, rfl, rfl, rfl, rfl, rfl, rfl, rfl, rfl, rfl, rfl, rfl, rfl, rfl, rfl, rfl, trivial⟩ ?_
          rintro ⟨v, U3⟩ ⟨hle_161, ⟨y0, y1, y2⟩⟩
          dsimp only at *
          refine C_seq ?_
          refine C_seq ?_
          refine C_region rfl ?_
          refine T_pv rfl (pv_move rfl) ?_
          refine T_pv rfl (pv_fieldAddr rfl fl_26_3) ?_
          refine T_pv rfl (pv_load rfl ag23 (Cell.blk 103 rfl rfl)) ?_
          refine T_pv rfl (pv_move rfl) ?_
          obtain ⟨us_162, hk_163, he_164⟩ := RdA.elt y2.bd (i := u) (by omega) (by omega)
          obtain ⟨A_165, c_166, rfl, h_167⟩ := hk_163
          have hb_168 := h_167.bd
          refine T_pv rfl (pv_idxn y2.bd hn3 rfl rfl el23 sz38 (by omega) (by omega)) ?_
          refine T_pv rfl (pv_load rfl ag38 ((he_164 _ _ Im.cut_le).zero rfl)) ?_
          refine T_pv rfl (pv_len rfl el38) ?_
          refine T_pv rfl (pv_lss rfl rfl) ?_
          refine T_nil ?_
          refine N_then ?_
          refine C_cond rfl (fun hb_169 => ?_) (fun hb_169 => ?_)
          · -- decide (v < (((f.bands.map shp).getD (u).toNat default).length : Int)) = true
            have hx_170 := of_decide_eq_true hb_169
            refine C_skip ?_
            refine N_then ?_
            refine C_seq ?_
            refine C_block ?_
            refine C_drawS (U3) [(101, .blk g_1 [.slice Af0 f.chans.length cf0, .bool f.common, .int .i64 f.mask, .slice Af3 f.bands.length cf3, .slice Af4 f.fill.length cf4] 26), (102, .blk g_2 [.slice Ao0 o.chans.length co0, .bool o.common, .int .i64 o.mask, .slice Ao3 o.bands.length co3, .slice Ao4 o.fill.length co4] 26), (103, .blk g_41 [.slice A_27 f.chans.length c_28, .bool f.common, .int .i64 f.mask, .slice A_29 f.bands.length c_30, .slice A_31 f.fill.length c_32] 26), (104, .blk g_79 [.slice A_65 f.chans.length c_66, .bool f.common, .int .i64 f.mask, .slice A_67 f.bands.length c_68, .slice A_69 f.fill.length c_70] 26)] 15 (by kernel_rfl) rfl (fun h0_171 => ?_)
            refine A_take (i := 0) rfl (by kernel_rfl) (held_le ⟨rfl, rfl, rfl, rfl, trivial⟩ (ImLe.refl _) h0_171) rfl (pv_fieldAddr rfl fl_26_3) ?_
            refine A_take (i := 1) rfl (by kernel_rfl) (held_le ⟨rfl, rfl, rfl, rfl, trivial⟩ (ImLe.refl _) h0_171) rfl (pv_load rfl ag23 (Cell.blk 103 rfl rfl)) ?_
            refine A_take (i := 2) rfl (by kernel_rfl) (held_le ⟨rfl, rfl, rfl, rfl, trivial⟩ (ImLe.refl _) h0_171) rfl (pv_move rfl) ?_
            refine A_take (i := 3) rfl (by kernel_rfl) (held_le ⟨rfl, rfl, rfl, rfl, trivial⟩ (ImLe.refl _) h0_171) rfl (pv_idxn y2.bd hn3 rfl rfl el23 sz38 (by omega) (by omega)) ?_
            refine A_take (i := 4) rfl (by kernel_rfl) (held_le ⟨rfl, rfl, rfl, rfl, trivial⟩ (ImLe.refl _) h0_171) rfl (pv_load rfl ag38 ((he_164 _ _ Im.cut_le).zero rfl)) ?_
            refine A_take (i := 5) rfl (by kernel_rfl) (held_le ⟨rfl, rfl, rfl, rfl, trivial⟩ (ImLe.refl _) h0_171) rfl (pv_move rfl) ?_
            refine A_take (i := 6) rfl (by kernel_rfl) (held_le ⟨rfl, rfl, rfl, rfl, trivial⟩ (ImLe.refl _) h0_171) rfl (pv_fieldAddr rfl fl_26_3) ?_
            refine A_take (i := 7) rfl (by kernel_rfl) (held_le ⟨rfl, rfl, rfl, rfl, trivial⟩ (ImLe.refl _) h0_171) rfl (pv_load rfl ag23 (Cell.blk 103 rfl rfl)) ?_
            refine A_take (i := 8) rfl (by kernel_rfl) (held_le ⟨rfl, rfl, rfl, rfl, trivial⟩ (ImLe.refl _) h0_171) rfl (pv_move rfl) ?_
            refine A_take (i := 9) rfl (by kernel_rfl) (held_le ⟨rfl, rfl, rfl, rfl, trivial⟩ (ImLe.refl _) h0_171) rfl (pv_idxn y2.bd hn3 rfl rfl el23 sz38 (by omega) (by omega)) ?_
            refine A_take (i := 10) rfl (by kernel_rfl) (held_le ⟨rfl, rfl, rfl, rfl, trivial⟩ (ImLe.refl _) h0_171) rfl (pv_load rfl ag38 ((he_164 _ _ Im.cut_le).zero rfl)) ?_
            refine A_take (i := 11) rfl (by kernel_rfl) (held_le ⟨rfl, rfl, rfl, rfl, trivial⟩ (ImLe.refl _) h0_171) rfl (pv_move rfl) ?_
            obtain ⟨us_172, hk_173, he_174⟩ := RdA.elt h_167 (i := v) (by omega) (by omega)
            obtain ⟨b_175, rfl⟩ := hk_173
            refine A_take (i := 12) rfl (by kernel_rfl) (held_le ⟨rfl, rfl, rfl, rfl, trivial⟩ (ImLe.refl _) h0_171) rfl (pv_idx h_167 rfl rfl el38 sz4 (by omega) (by omega)) ?_
            refine A_take (i := 13) rfl (by kernel_rfl) (held_le ⟨rfl, rfl, rfl, rfl, trivial⟩ (ImLe.refl _) h0_171) rfl (pv_load rfl ag4 ((he_174 _ _ Im.cut_le).zero rfl)) ?_
            refine A_take (i := 14) rfl (by kernel_rfl) (held_le ⟨rfl, rfl, rfl, rfl, trivial⟩ (ImLe.refl _) h0_171) rfl (pv_not rfl) ?_
            refine A_one (i := 15) (by kernel_rfl) ?_
            refine AS_op rfl (op_pv (lt_of rfl) (pv_idx h_167 rfl rfl el38 sz4 (by omega) (by omega)) ⟨(fun h => by cases h), ?_⟩)
            refine A_one (i := 16) (by kernel_rfl) ?_
            obtain ⟨g_176, cs_177, T_178, fr_179, o_180, had_181, hg_182, hg_183, hlt_184, htw_185⟩ := TwI.at_ y2 h_167 (i := v) (by omega) (by omega) 0 (v := .bool (!b_175)) (fun us x hk => by obtain ⟨b, rfl⟩ := hk; exact ⟨_, rfl, .inr (.inr ⟨_, _, rfl, rfl⟩)⟩)
            refine AS_op rfl (op_storeAt rfl (add_zero.symm.trans had_181) rfl rfl sz4 rfl hg_182 hg_183 hlt_184 ?_)
            generalize hV_187 : Im.put U3 g_176 (.cells (cs_177.setIfInBounds o_180 (.bool (!b_175))) T_178 fr_179) = V_186 at htw_185 ⊢
            refine ⟨(fun h => by cases h), ?_⟩
            refine A_done (by kernel_rfl) ?_
            refine N_block ?_
            refine N_then ?_
            refine C_region rfl ?_
            refine T_pv rfl (pv_move rfl) ?_
            have hr_188 : InR .i64 (v + 1) := inR_i64 (by omega) (by omega)
            refine T_pv rfl (pv_add rfl rfl hr_188) ?_
            refine T_pv rfl (pv_assign rfl) ?_
            refine T_nil ?_
            refine N_next ((v + 1, V_186)) ⟨htw_185.a, ⟨by omega, by omega, htw_185⟩⟩ (by first | omega | (dsimp only; omega)) rfl ⟨rfl, rfl, rfl, rfl, trivial⟩ ⟨rfl, rfl, rfl, rfl, rfl, rfl, rfl, rfl, rfl, rfl, rfl, rfl, rfl, rfl, rfl, rfl, rfl, rfl, rfl, rfl, rfl, rfl, rfl, rfl, rfl, rfl, rfl, rfl, rfl, rfl, rfl, rfl, rfl, rfl, rfl, rfl, rfl, rfl, rfl, rfl, rfl, rfl, rfl, trivial⟩
          · -- decide (v < (((f.bands.map shp).getD (u).toNat default).length : Int)) = false
            have hx_189 := of_decide_eq_false hb_169
            refine C_exit ?_
            refine X_then ?_
            refine X_loop ?_
            refine X_block ?_
            refine N_block ?_
            refine N_then ?_
            refine C_region rfl ?_
            refine T_pv rfl (pv_move rfl) ?_
            have hr_190 : InR .i64 (u + 1) := inR_i64 (by omega) (by omega)
            refine T_pv rfl (pv_add rfl rfl hr_190) ?_
            refine T_pv rfl (pv_assign rfl) ?_
            refine T_nil ?_
            refine N_next ((u + 1, U3)) ⟨hle_161, ⟨by omega, by omega, y2⟩⟩ (by first | omega | (dsimp only; omega)) rfl ⟨rfl, rfl, rfl, rfl, trivial⟩ ⟨rfl, rfl, rfl, rfl, rfl, rfl, rfl, rfl, rfl, rfl, rfl, rfl, rfl, rfl, rfl, rfl, rfl, rfl, rfl, rfl, rfl, rfl, rfl, rfl, rfl, rfl, rfl, rfl, rfl, rfl, rfl, rfl, rfl, rfl, rfl, rfl, rfl, trivial⟩
        · -- decide (u < (f.bands.length : Int)) = false
          have hx_191 := of_decide_eq_false hb_159
          refine C_exit ?_
          refine X_then ?_
          refine X_loop ?_
          refine X_block ?_
          refine N_then ?_
          refine C_seq ?_
          refine C_seq ?_
          refine C_region rfl ?_
          refine T_pv rfl (pv_assign rfl) ?_
          refine T_nil ?_
          refine N_then ?_
          refine C_block ?_
          refine C_loop (fun (x : Int × Im) => (x.2, [(101, .blk g_1 [.slice Af0 f.chans.length cf0, .bool f.common, .int .i64 f.mask, .slice Af3 f.bands.length cf3, .slice Af4 f.fill.length cf4] 26), (102, .blk g_2 [.slice Ao0 o.chans.length co0, .bool o.common, .int .i64 o.mask, .slice Ao3 o.bands.length co3, .slice Ao4 o.fill.length co4] 26), (103, .blk g_41 [.slice A_27 f.chans.length c_28, .bool f.common, .int .i64 f.mask, .slice A_29 f.bands.length c_30, .slice A_31 f.fill.length c_32] 26), (104, .blk g_79 [.slice A_65 f.chans.length c_66, .bool f.common, .int .i64 f.mask, .slice A_67 f.bands.length c_68, .slice A_69 f.fill.length c_70] 26)], [(0, .agg #[.slice Af0 f.chans.length cf0, .bool f.common, .int .i64 f.mask, .slice Af3 f.bands.length cf3, .slice Af4 f.fill.length cf4]), (1, .agg #[.slice Ao0 o.chans.length co0, .bool o.common, .int .i64 o.mask, .slice Ao3 o.bands.length co3, .slice Ao4 o.fill.length co4]), (2, .pointer (some ⟨g_1, 0, none⟩)), (3, .pointer (some ⟨g_2, 0, none⟩)), (4, .bool false), (13, .agg #[.slice Af0 f.chans.length cf0, .bool f.common, .int .i64 f.mask, .slice Af3 f.bands.length cf3, .slice Af4 f.fill.length cf4]), (14, .bool r_3), (15, .bool r_3), (16, .agg #[.slice Ao0 o.chans.length co0, .bool o.common, .int .i64 o.mask, .slice Ao3 o.bands.length co3, .slice Ao4 o.fill.length co4]), (17, .bool r_10), (18, .bool r_10), (19, .agg #[.slice Af0 f.chans.length cf0, .bool f.common, .int .i64 f.mask, .slice Af3 f.bands.length cf3, .slice Af4 f.fill.length cf4]), (20, .agg #[.slice A_27 f.chans.length c_28, .bool f.common, .int .i64 f.mask, .slice A_29 f.bands.length c_30, .slice A_31 f.fill.length c_32]), (5, .pointer (some ⟨g_41, 0, none⟩)), (21, .agg #[.slice Af0 f.chans.length cf0, .bool f.common, .int .i64 f.mask, .slice Af3 f.bands.length cf3, .slice Af4 f.fill.length cf4]), (22, .agg #[.slice Ao0 o.chans.length co0, .bool o.common, .int .i64 o.mask, .slice Ao3 o.bands.length co3, .slice Ao4 o.fill.length co4]), (24, .agg #[.slice Af0 f.chans.length cf0, .bool f.common, .int .i64 f.mask, .slice Af3 f.bands.length cf3, .slice Af4 f.fill.length cf4]), (25, .agg #[.slice Ao0 o.chans.length co0, .bool o.common, .int .i64 o.mask, .slice Ao3 o.bands.length co3, .slice Ao4 o.fill.length co4]), (23, .bool (decide (f = o))), (26, .bool (decide (f = o))), (27, .bool (decide ((decide (f = o)) = (decide (f = o))))), (28, .bool (decide ((decide (f = o)) = (decide (f = o))))), (29, .agg #[.slice A_27 f.chans.length c_28, .bool f.common, .int .i64 f.mask, .slice A_29 f.bands.length c_30, .slice A_31 f.fill.length c_32]), (30, .agg #[.slice Af0 f.chans.length cf0, .bool f.common, .int .i64 f.mask, .slice Af3 f.bands.length cf3, .slice Af4 f.fill.length cf4]), (31, .bool (decide (f = f))), (32, .bool (decide (f = f))), (6, .bool (decide (f = f))), (33, .agg #[.slice Af0 f.chans.length cf0, .bool f.common, .int .i64 f.mask, .slice Af3 f.bands.length cf3, .slice Af4 f.fill.length cf4]), (34, .agg #[.slice A_65 f.chans.length c_66, .bool f.common, .int .i64 f.mask, .slice A_67 f.bands.length c_68, .slice A_69 f.fill.length c_70]), (7, .pointer (some ⟨g_79, 0, none⟩)), (8, .int .i64 i), (35, .int .i64 i), (36, .pointer (some ⟨g_41, 0, none⟩)), (37, .slice A_27 f.chans.length c_28), (38, .int .i64 (f.chans.length : Int)), (39, .bool (decide (i < (f.chans.length : Int)))), (10, .int .i64 u), (73, .int .i64 u), (74, .pointer (some ⟨g_41, 3, none⟩)), (75, .slice A_29 f.bands.length c_30), (76, .int .i64 (f.bands.length : Int)), (77, .bool (decide (u < (f.bands.length : Int)))), (12, .int .i64 x.1)])) (fun (x : Int × Im) => ImLe S x.2 ∧ 0 ≤ x.1 ∧ x.1 ≤ f.fill.length ∧ TwI S S_23 S_61 x.2 A_27 A_29 A_31 c_28 c_30 c_32 f) (fun (x : Int × Im) => (f.fill.length - x.1).toNat) ((0, U2)) ⟨hle_158, ⟨by omega, by omega, t2⟩⟩ rfl ⟨rfl, rfl, rfl, rfl, trivial⟩ ⟨rfl, rfl, rfl, rfl, rfl, rfl, rfl, rfl, rfl, rfl, rfl, rfl, rfl, rfl, rfl, rfl, rfl, rfl, rfl, rfl, rfl, rfl, rfl, rfl, rfl, rfl, rfl, rfl, rfl, rfl, rfl, rfl, rfl, rfl, rfl, rfl, rfl, rfl, rfl, rfl, rfl, rfl, rfl, trivial⟩ ?_
          rintro ⟨z, U4⟩ ⟨hle_192, ⟨x0, x1, x2⟩⟩
          dsimp only at *
          refine C_seq ?_
          refine C_seq ?_
          refine C_region rfl ?_
          refine T_pv rfl (pv_move rfl) ?_
          refine T_pv rfl (pv_fieldAddr rfl fl_26_4) ?_
          refine T_pv rfl (pv_load rfl ag24 (Cell.blk 103 rfl rfl)) ?_
          refine T_pv rfl (pv_len rfl el24) ?_
          refine T_pv rfl (pv_lss rfl rfl) ?_
          refine T_nil ?_
          refine N_then ?_
          refine C_cond rfl (fun hb_193 => ?_) (fun hb_193 => ?_)
          · -- decide (z < (f.fill.length : Int)) = true
            have hx_194 := of_decide_eq_true hb_193
            refine C_skip ?_
            refine N_then ?_
            refine C_seq ?_
            refine C_block ?_
            refine C_region rfl ?_
            refine T_pv rfl (pv_fieldAddr rfl fl_26_4) ?_
            refine T_pv rfl (pv_load rfl ag24 (Cell.blk 103 rfl rfl)) ?_
            refine T_pv rfl (pv_move rfl) ?_
            obtain ⟨us_195, hk_196, he_197⟩ := RdA.elt x2.fl (i := z) (by omega) (by omega)
            obtain ⟨n_198, rfl, h_199⟩ := hk_196
            have hq_200 := InR.u8 h_199
            refine T_pv rfl (pv_idxn x2.fl hn4 rfl rfl el24 sz5 (by omega) (by omega)) ?_
            refine T_pv rfl (pv_load rfl ag5 ((he_197 _ _ Im.cut_le).zero rfl)) ?_
            refine T_pv rfl (pv_addw rfl rfl) ?_
            refine T_pv rfl (pv_idxn x2.fl hn4 rfl rfl el24 sz5 (by omega) (by omega)) ?_
            obtain ⟨g_201, cs_202, T_203, fr_204, o_205, had_206, hg_207, hg_208, hlt_209, htw_210⟩ := TwI.at_ x2 x2.fl (i := z) (by omega) (by omega) 0 (v := .int .u8 (IntKind.wrap .u8 (n_198 + 1))) (fun us x hk => by obtain ⟨n, rfl, h⟩ := hk; exact ⟨_, rfl, .inr (.inl ⟨_, _, _, rfl, rfl, inR_wrap _ _⟩)⟩)
            refine T_cons (op_storeAt rfl (add_zero.symm.trans had_206) rfl rfl sz5 rfl hg_207 hg_208 hlt_209 ?_)
            generalize hV_212 : Im.put U4 g_201 (.cells (cs_202.setIfInBounds o_205 (.int .u8 (IntKind.wrap .u8 (n_198 + 1)))) T_203 fr_204) = V_211 at htw_210 ⊢
            refine T_nil ?_
            refine N_block ?_
            refine N_then ?_
            refine C_region rfl ?_
            refine T_pv rfl (pv_move rfl) ?_
            have hr_213 : InR .i64 (z + 1) := inR_i64 (by omega) (by omega)
            refine T_pv rfl (pv_add rfl rfl hr_213) ?_
            refine T_pv rfl (pv_assign rfl) ?_
            refine T_nil ?_
            refine N_next ((z + 1, V_211)) ⟨htw_210.a, ⟨by omega, by omega, htw_210⟩⟩ (by first | omega | (dsimp only; omega)) rfl ⟨rfl, rfl, rfl, rfl, trivial⟩ ⟨rfl, rfl, rfl, rfl, rfl, rfl, rfl, rfl, rfl, rfl, rfl, rfl, rfl, rfl, rfl, rfl, rfl, rfl, rfl, rfl, rfl, rfl, rfl, rfl, rfl, rfl, rfl, rfl, rfl, rfl, rfl, rfl, rfl, rfl, rfl, rfl, rfl, rfl, rfl, rfl, rfl, rfl, rfl, trivial⟩
          · -- decide (z < (f.fill.length : Int)) = false
            have hx_214 := of_decide_eq_false hb_193
            refine C_exit ?_
            refine X_then ?_
            refine X_loop ?_
            refine X_block ?_
            refine N_then ?_
            refine C_seq ?_
            refine C_region rfl ?_
            refine T_pv rfl (pv_move rfl) ?_
            refine T_pv rfl (pv_move rfl) ?_
            refine T_gy rfl rfl (decide_eq_true rfl) rfl (pv_load_agg (cs := [.slice Af0 f.chans.length cf0, .bool f.common, .int .i64 f.mask, .slice Af3 f.bands.length cf3, .slice Af4 f.fill.length cf4]) rfl ag26 sz26 rfl ⟨Cell.blk 101 rfl rfl, Cell.blk 101 rfl rfl, Cell.blk 101 rfl rfl, Cell.blk 101 rfl rfl, Cell.blk 101 rfl rfl, trivial⟩) ?_
            refine T_gy rfl rfl (decide_eq_true rfl) rfl (pv_load_agg (cs := [.slice A_65 f.chans.length c_66, .bool f.common, .int .i64 f.mask, .slice A_67 f.bands.length c_68, .slice A_69 f.fill.length c_70]) rfl ag26 sz26 rfl ⟨Cell.blk 104 rfl rfl, Cell.blk 104 rfl rfl, Cell.blk 104 rfl rfl, Cell.blk 104 rfl rfl, Cell.blk 104 rfl rfl, trivial⟩) ?_
            refine T_gyo rfl rfl (decide_eq_true rfl) (op_call (fun _ h => by cases h; exact lt_of rfl) rfl rfl rfl en7 (f_r23_Same _ f _ _ (hf0.mono hle_192) hf2 _ _ (hf3.mono hle_192) _ _ (hf4.mono hle_192) f _ _ (RdA.mono h_71 x2.b) h_72 _ _ (RdA.mono h_73 x2.b) _ _ (RdA.mono h_74 x2.b)) [] trivial (by simp) (by decide) ?_)
            rintro v_218 S_216 L_219 ⟨r_215, rfl, rfl, rfl, rfl⟩ hle_217
            refine ⟨rfl, ?_⟩
            refine T_pv rfl (pv_pick_t rfl (decide_eq_true rfl) rfl) ?_
            refine T_pv rfl (pv_assign rfl) ?_
            refine T_nil ?_
            refine N_then ?_
            refine C_ret0 ?_
            -- ret 2: .bool (decide (f = f))
            refine Q_ret (vs := [.bool (decide (f = f))]) ⟨rfl, trivial⟩ (L' := []) [] trivial (by simp) (by decide) (⟨decide (f = f), rfl, rfl, ?_⟩)
            · first | rfl | simp

end Go.Proofs.Ythamgiecgilmdaa
