/- Walks, printed by wip/tool/walk2.py. -/
import Derived.Test.YthamgiecgilmdaaSb
namespace Go.Proofs.Ythamgiecgilmdaa
open Go Go.RowKit

set_option maxRecDepth 100000 in
theorem f_CloneI (S : Im) (As : Option Addr) (cs : Nat) (s : List Int) (hs : RdA (kInt .i64) S As cs s) (p0 : s.length ≤ 1000000000) : Fn Try.prog 26 [.slice As s.length cs] S [] fun v S' L' => ∃ (Ar0 : Option Addr) (cr0 : Nat) (r0 : List Int) (er0 : List Value), v = .slice Ar0 r0.length cr0 ∧ S = S' ∧ L' = [.row (.slice Ar0 r0.length cr0) 3 1 r0.length er0] ∧ s = r0 ∧ RowOk (kInt .i64) S' Ar0 cr0 er0 r0 := by
  have hb_s := hs.bd
  refine Fn_intro 8 Try.func26 rfl rfl rfl fun w0 => ?_
  refine C_seq ?_
  refine C_region rfl ?_
  refine T_pv rfl (pv_assign rfl) ?_
  refine T_nil ?_
  refine N_then ?_
  refine C_seq ?_
  refine C_seq ?_
  refine C_region rfl ?_
  refine T_pv rfl (pv_move rfl) ?_
  refine T_pv rfl (pv_eqlnil rfl rfl el30) ?_
  refine T_nil ?_
  refine N_then ?_
  refine C_cond rfl (fun hb_1 => ?_) (fun hb_1 => ?_)
  · -- Option.isNone As = true
    refine C_seq ?_
    refine C_region rfl ?_
    refine T_pv rfl (pv_assign rfl) ?_
    refine T_nil ?_
    refine N_then ?_
    refine C_ret0 ?_
    refine R_then ?_
    -- ret 0: .slice none 0 0
    refine G_newNil 101 3 1 ?_
    refine Q_ret (vs := [.slice none 0 0]) ⟨rfl, trivial⟩ (L' := [.row (.slice none 0 0) 3 1 0 []]) [101] ⟨rfl, trivial⟩ (by simp) (by decide) (⟨none, 0, ([] : List Int), [], rfl, rfl, rfl, ?_, (RowOk.nil _ _)⟩)
    · exact RdA.isNone hs hb_1
  · -- Option.isNone As = false
    refine C_skip ?_
    refine N_then ?_
    refine C_seq ?_
    refine C_region rfl ?_
    refine T_cons (op_buildSlice (cs := []) (lt_of rfl) 102 rfl el30 sz3 zr3 (by decide) (by decide) rfl rfl fun g_2 => ?_)
    refine T_pv rfl (pv_move rfl) ?_
    obtain ⟨news_7, hs_8⟩ := RdA.src hs
    refine T_cons (op_appendR0 (lt_of rfl) 102 (RowOk.any (S' := (S.minus S)) (fun _ _ _ _ h => h) (RowOk.lit0 (kInt .i64) S g_2)) (Src.any (fun _ _ _ _ h => h) (hs_8 _ _ (ImLe.refl _))) rfl rfl el30 sz3 zr3 rfl (by decide) bt3 rfl rfl (by first | omega | (simp only [List.length_append, List.length_cons, List.length_nil, List.length_take]; omega)) (by first | omega | (simp only [List.length_append, List.length_cons, List.length_nil, List.length_take]; omega)) fun A_3 c_4 cells_5 hro_6 => ?_)
    refine T_pv rfl (pv_assign rfl) ?_
    refine T_nil ?_
    refine N_then ?_
    refine C_ret0 ?_
    -- ret 1: .slice A_3 s.length c_4
    refine Q_ret (vs := [.slice A_3 s.length c_4]) ⟨rfl, trivial⟩ (L' := [.row (.slice A_3 s.length c_4) 3 1 s.length cells_5]) [102] ⟨rfl, trivial⟩ (by simp) (by decide) (⟨A_3, c_4, s, cells_5, rfl, rfl, rfl, ?_, (hro_6.mono Im.minus_le)⟩)
    · rfl

set_option maxRecDepth 100000 in
theorem f_CloneB (S : Im) (As : Option Addr) (cs : Nat) (s : List Int) (hs : RdA (kInt .u8) S As cs s) (p0 : s.length ≤ 1000000000) : Fn Try.prog 12 [.slice As s.length cs] S [] fun v S' L' => ∃ (Ar0 : Option Addr) (cr0 : Nat) (r0 : List Int) (er0 : List Value), v = .slice Ar0 r0.length cr0 ∧ S = S' ∧ L' = [.row (.slice Ar0 r0.length cr0) 5 1 r0.length er0] ∧ s = r0 ∧ RowOk (kInt .u8) S' Ar0 cr0 er0 r0 := by
  have hb_s := hs.bd
  refine Fn_intro 8 Try.func12 rfl rfl rfl fun w0 => ?_
  refine C_seq ?_
  refine C_region rfl ?_
  refine T_pv rfl (pv_assign rfl) ?_
  refine T_nil ?_
  refine N_then ?_
  refine C_seq ?_
  refine C_seq ?_
  refine C_region rfl ?_
  refine T_pv rfl (pv_move rfl) ?_
  refine T_pv rfl (pv_eqlnil rfl rfl el24) ?_
  refine T_nil ?_
  refine N_then ?_
  refine C_cond rfl (fun hb_1 => ?_) (fun hb_1 => ?_)
  · -- Option.isNone As = true
    refine C_seq ?_
    refine C_region rfl ?_
    refine T_pv rfl (pv_assign rfl) ?_
    refine T_nil ?_
    refine N_then ?_
    refine C_ret0 ?_
    refine R_then ?_
    -- ret 0: .slice none 0 0
    refine G_newNil 101 5 1 ?_
    refine Q_ret (vs := [.slice none 0 0]) ⟨rfl, trivial⟩ (L' := [.row (.slice none 0 0) 5 1 0 []]) [101] ⟨rfl, trivial⟩ (by simp) (by decide) (⟨none, 0, ([] : List Int), [], rfl, rfl, rfl, ?_, (RowOk.nil _ _)⟩)
    · exact RdA.isNone hs hb_1
  · -- Option.isNone As = false
    refine C_skip ?_
    refine N_then ?_
    refine C_seq ?_
    refine C_region rfl ?_
    refine T_cons (op_buildSlice (cs := []) (lt_of rfl) 102 rfl el24 sz5 zr5 (by decide) (by decide) rfl rfl fun g_2 => ?_)
    refine T_pv rfl (pv_move rfl) ?_
    obtain ⟨news_7, hs_8⟩ := RdA.src hs
    refine T_cons (op_appendR0 (lt_of rfl) 102 (RowOk.any (S' := (S.minus S)) (fun _ _ _ _ h => h) (RowOk.lit0 (kInt .u8) S g_2)) (Src.any (fun _ _ _ _ h => h) (hs_8 _ _ (ImLe.refl _))) rfl rfl el24 sz5 zr5 rfl (by decide) bt5 rfl rfl (by first | omega | (simp only [List.length_append, List.length_cons, List.length_nil, List.length_take]; omega)) (by first | omega | (simp only [List.length_append, List.length_cons, List.length_nil, List.length_take]; omega)) fun A_3 c_4 cells_5 hro_6 => ?_)
    refine T_pv rfl (pv_assign rfl) ?_
    refine T_nil ?_
    refine N_then ?_
    refine C_ret0 ?_
    -- ret 1: .slice A_3 s.length c_4
    refine Q_ret (vs := [.slice A_3 s.length c_4]) ⟨rfl, trivial⟩ (L' := [.row (.slice A_3 s.length c_4) 5 1 s.length cells_5]) [102] ⟨rfl, trivial⟩ (by simp) (by decide) (⟨A_3, c_4, s, cells_5, rfl, rfl, rfl, ?_, (hro_6.mono Im.minus_le)⟩)
    · rfl

set_option maxRecDepth 100000 in
theorem f_CloneBo (S : Im) (As : Option Addr) (cs : Nat) (s : List Bool) (hs : RdA kBool S As cs s) (p0 : s.length ≤ 1000000000) : Fn Try.prog 14 [.slice As s.length cs] S [] fun v S' L' => ∃ (Ar0 : Option Addr) (cr0 : Nat) (r0 : List Bool) (er0 : List Value), v = .slice Ar0 r0.length cr0 ∧ S = S' ∧ L' = [.row (.slice Ar0 r0.length cr0) 4 1 r0.length er0] ∧ s = r0 ∧ RowOk kBool S' Ar0 cr0 er0 r0 := by
  have hb_s := hs.bd
  refine Fn_intro 8 Try.func14 rfl rfl rfl fun w0 => ?_
  refine C_seq ?_
  refine C_region rfl ?_
  refine T_pv rfl (pv_assign rfl) ?_
  refine T_nil ?_
  refine N_then ?_
  refine C_seq ?_
  refine C_seq ?_
  refine C_region rfl ?_
  refine T_pv rfl (pv_move rfl) ?_
  refine T_pv rfl (pv_eqlnil rfl rfl el38) ?_
  refine T_nil ?_
  refine N_then ?_
  refine C_cond rfl (fun hb_1 => ?_) (fun hb_1 => ?_)
  · -- Option.isNone As = true
    refine C_seq ?_
    refine C_region rfl ?_
    refine T_pv rfl (pv_assign rfl) ?_
    refine T_nil ?_
    refine N_then ?_
    refine C_ret0 ?_
    refine R_then ?_
    -- ret 0: .slice none 0 0
    refine G_newNil 101 4 1 ?_
    refine Q_ret (vs := [.slice none 0 0]) ⟨rfl, trivial⟩ (L' := [.row (.slice none 0 0) 4 1 0 []]) [101] ⟨rfl, trivial⟩ (by simp) (by decide) (⟨none, 0, ([] : List Bool), [], rfl, rfl, rfl, ?_, (RowOk.nil _ _)⟩)
    · exact RdA.isNone hs hb_1
  · -- Option.isNone As = false
    refine C_skip ?_
    refine N_then ?_
    refine C_seq ?_
    refine C_region rfl ?_
    refine T_cons (op_buildSlice (cs := []) (lt_of rfl) 102 rfl el38 sz4 zr4 (by decide) (by decide) rfl rfl fun g_2 => ?_)
    refine T_pv rfl (pv_move rfl) ?_
    obtain ⟨news_7, hs_8⟩ := RdA.src hs
    refine T_cons (op_appendR0 (lt_of rfl) 102 (RowOk.any (S' := (S.minus S)) (fun _ _ _ _ h => h) (RowOk.lit0 kBool S g_2)) (Src.any (fun _ _ _ _ h => h) (hs_8 _ _ (ImLe.refl _))) rfl rfl el38 sz4 zr4 rfl (by decide) bt4 rfl rfl (by first | omega | (simp only [List.length_append, List.length_cons, List.length_nil, List.length_take]; omega)) (by first | omega | (simp only [List.length_append, List.length_cons, List.length_nil, List.length_take]; omega)) fun A_3 c_4 cells_5 hro_6 => ?_)
    refine T_pv rfl (pv_assign rfl) ?_
    refine T_nil ?_
    refine N_then ?_
    refine C_ret0 ?_
    -- ret 1: .slice A_3 s.length c_4
    refine Q_ret (vs := [.slice A_3 s.length c_4]) ⟨rfl, trivial⟩ (L' := [.row (.slice A_3 s.length c_4) 4 1 s.length cells_5]) [102] ⟨rfl, trivial⟩ (by simp) (by decide) (⟨A_3, c_4, s, cells_5, rfl, rfl, rfl, ?_, (hro_6.mono Im.minus_le)⟩)
    · rfl

set_option maxRecDepth 100000 in
theorem f_CloneS (S : Im) (As : Option Addr) (cs : Nat) (s : List GSection) (hs : RdA kGSection S As cs s) (p0 : s.length ≤ 1000000000) : Fn Try.prog 43 [.slice As s.length cs] S [] fun v S' L' => ∃ (Ar0 : Option Addr) (cr0 : Nat) (r0 : List GSection) (er0 : List Value), v = .slice Ar0 r0.length cr0 ∧ S = S' ∧ L' = [.row (.slice Ar0 r0.length cr0) 57 2 r0.length er0] ∧ s = r0 ∧ RowOk kGSection S' Ar0 cr0 er0 r0 := by
  have hb_s := hs.bd
  refine Fn_intro 8 Try.func43 rfl rfl rfl fun w0 => ?_
  refine C_seq ?_
  refine C_region rfl ?_
  refine T_pv rfl (pv_assign rfl) ?_
  refine T_nil ?_
  refine N_then ?_
  refine C_seq ?_
  refine C_seq ?_
  refine C_region rfl ?_
  refine T_pv rfl (pv_move rfl) ?_
  refine T_pv rfl (pv_eqlnil rfl rfl el50) ?_
  refine T_nil ?_
  refine N_then ?_
  refine C_cond rfl (fun hb_1 => ?_) (fun hb_1 => ?_)
  · -- Option.isNone As = true
    refine C_seq ?_
    refine C_region rfl ?_
    refine T_pv rfl (pv_assign rfl) ?_
    refine T_nil ?_
    refine N_then ?_
    refine C_ret0 ?_
    refine R_then ?_
    -- ret 0: .slice none 0 0
    refine G_newNil 101 57 2 ?_
    refine Q_ret (vs := [.slice none 0 0]) ⟨rfl, trivial⟩ (L' := [.row (.slice none 0 0) 57 2 0 []]) [101] ⟨rfl, trivial⟩ (by simp) (by decide) (⟨none, 0, ([] : List GSection), [], rfl, rfl, rfl, ?_, (RowOk.nil _ _)⟩)
    · exact RdA.isNone hs hb_1
  · -- Option.isNone As = false
    refine C_skip ?_
    refine N_then ?_
    refine C_seq ?_
    refine C_region rfl ?_
    refine T_cons (op_buildSlice (cs := []) (lt_of rfl) 102 rfl el50 sz57 zr57 (by decide) (by decide) rfl rfl fun g_2 => ?_)
    refine T_pv rfl (pv_move rfl) ?_
    obtain ⟨news_7, hs_8⟩ := RdA.src hs
    refine T_cons (op_appendR0 (lt_of rfl) 102 (RowOk.any (S' := (S.minus S)) (fun _ _ _ _ h => h) (RowOk.lit0 kGSection S g_2)) (Src.any (fun _ _ _ _ h => h) (hs_8 _ _ (ImLe.refl _))) rfl rfl el50 sz57 zr57 rfl (by decide) bt57 rfl rfl (by first | omega | (simp only [List.length_append, List.length_cons, List.length_nil, List.length_take]; omega)) (by first | omega | (simp only [List.length_append, List.length_cons, List.length_nil, List.length_take]; omega)) fun A_3 c_4 cells_5 hro_6 => ?_)
    refine T_pv rfl (pv_assign rfl) ?_
    refine T_nil ?_
    refine N_then ?_
    refine C_ret0 ?_
    -- ret 1: .slice A_3 s.length c_4
    refine Q_ret (vs := [.slice A_3 s.length c_4]) ⟨rfl, trivial⟩ (L' := [.row (.slice A_3 s.length c_4) 57 2 s.length cells_5]) [102] ⟨rfl, trivial⟩ (by simp) (by decide) (⟨A_3, c_4, s, cells_5, rfl, rfl, rfl, ?_, (hro_6.mono Im.minus_le)⟩)
    · rfl

set_option maxRecDepth 100000 in
theorem f_CloneF (S : Im) (As : Option Addr) (cs : Nat) (s : List GFilter) (hs : RdA kGFilter S As cs s) (p0 : s.length ≤ 1000000000) : Fn Try.prog 46 [.slice As s.length cs] S [] fun v S' L' => ∃ (Ar0 : Option Addr) (cr0 : Nat) (r0 : List GFilter) (er0 : List Value), v = .slice Ar0 r0.length cr0 ∧ S = S' ∧ L' = [.row (.slice Ar0 r0.length cr0) 53 5 r0.length er0] ∧ s = r0 ∧ RowOk kGFilter S' Ar0 cr0 er0 r0 := by
  have hb_s := hs.bd
  refine Fn_intro 8 Try.func46 rfl rfl rfl fun w0 => ?_
  refine C_seq ?_
  refine C_region rfl ?_
  refine T_pv rfl (pv_assign rfl) ?_
  refine T_nil ?_
  refine N_then ?_
  refine C_seq ?_
  refine C_seq ?_
  refine C_region rfl ?_
  refine T_pv rfl (pv_move rfl) ?_
  refine T_pv rfl (pv_eqlnil rfl rfl el51) ?_
  refine T_nil ?_
  refine N_then ?_
  refine C_cond rfl (fun hb_1 => ?_) (fun hb_1 => ?_)
  · -- Option.isNone As = true
    refine C_seq ?_
    refine C_region rfl ?_
    refine T_pv rfl (pv_assign rfl) ?_
    refine T_nil ?_
    refine N_then ?_
    refine C_ret0 ?_
    refine R_then ?_
    -- ret 0: .slice none 0 0
    refine G_newNil 101 53 5 ?_
    refine Q_ret (vs := [.slice none 0 0]) ⟨rfl, trivial⟩ (L' := [.row (.slice none 0 0) 53 5 0 []]) [101] ⟨rfl, trivial⟩ (by simp) (by decide) (⟨none, 0, ([] : List GFilter), [], rfl, rfl, rfl, ?_, (RowOk.nil _ _)⟩)
    · exact RdA.isNone hs hb_1
  · -- Option.isNone As = false
    refine C_skip ?_
    refine N_then ?_
    refine C_seq ?_
    refine C_region rfl ?_
    refine T_cons (op_buildSlice (cs := []) (lt_of rfl) 102 rfl el51 sz53 zr53 (by decide) (by decide) rfl rfl fun g_2 => ?_)
    refine T_pv rfl (pv_move rfl) ?_
    obtain ⟨news_7, hs_8⟩ := RdA.src hs
    refine T_cons (op_appendR0 (lt_of rfl) 102 (RowOk.lit0 kGFilter S g_2) (hs_8 _ _ (ImLe.refl _)) rfl rfl el51 sz53 zr53 rfl (by decide) bt53 rfl rfl (by first | omega | (simp only [List.length_append, List.length_cons, List.length_nil, List.length_take]; omega)) (by first | omega | (simp only [List.length_append, List.length_cons, List.length_nil, List.length_take]; omega)) fun A_3 c_4 cells_5 hro_6 => ?_)
    refine T_pv rfl (pv_assign rfl) ?_
    refine T_nil ?_
    refine N_then ?_
    refine C_ret0 ?_
    -- ret 1: .slice A_3 s.length c_4
    refine Q_ret (vs := [.slice A_3 s.length c_4]) ⟨rfl, trivial⟩ (L' := [.row (.slice A_3 s.length c_4) 53 5 s.length cells_5]) [102] ⟨rfl, trivial⟩ (by simp) (by decide) (⟨A_3, c_4, s, cells_5, rfl, rfl, rfl, ?_, hro_6⟩)
    · rfl

set_option maxRecDepth 100000 in
theorem f_CloneC (S : Im) (As : Option Addr) (cs : Nat) (s : List GChan) (hs : RdA kGChan S As cs s) (p0 : s.length ≤ 1000000000) : Fn Try.prog 10 [.slice As s.length cs] S [] fun v S' L' => ∃ (Ar0 : Option Addr) (cr0 : Nat) (r0 : List GChan) (er0 : List Value), v = .slice Ar0 r0.length cr0 ∧ S = S' ∧ L' = [.row (.slice Ar0 r0.length cr0) 37 9 r0.length er0] ∧ s = r0 ∧ RowOk kGChan S' Ar0 cr0 er0 r0 := by
  have hb_s := hs.bd
  refine Fn_intro 8 Try.func10 rfl rfl rfl fun w0 => ?_
  refine C_seq ?_
  refine C_region rfl ?_
  refine T_pv rfl (pv_assign rfl) ?_
  refine T_nil ?_
  refine N_then ?_
  refine C_seq ?_
  refine C_seq ?_
  refine C_region rfl ?_
  refine T_pv rfl (pv_move rfl) ?_
  refine T_pv rfl (pv_eqlnil rfl rfl el22) ?_
  refine T_nil ?_
  refine N_then ?_
  refine C_cond rfl (fun hb_1 => ?_) (fun hb_1 => ?_)
  · -- Option.isNone As = true
    refine C_seq ?_
    refine C_region rfl ?_
    refine T_pv rfl (pv_assign rfl) ?_
    refine T_nil ?_
    refine N_then ?_
    refine C_ret0 ?_
    refine R_then ?_
    -- ret 0: .slice none 0 0
    refine G_newNil 101 37 9 ?_
    refine Q_ret (vs := [.slice none 0 0]) ⟨rfl, trivial⟩ (L' := [.row (.slice none 0 0) 37 9 0 []]) [101] ⟨rfl, trivial⟩ (by simp) (by decide) (⟨none, 0, ([] : List GChan), [], rfl, rfl, rfl, ?_, (RowOk.nil _ _)⟩)
    · exact RdA.isNone hs hb_1
  · -- Option.isNone As = false
    refine C_skip ?_
    refine N_then ?_
    refine C_seq ?_
    refine C_region rfl ?_
    refine T_cons (op_buildSlice (cs := []) (lt_of rfl) 102 rfl el22 sz37 zr37 (by decide) (by decide) rfl rfl fun g_2 => ?_)
    refine T_pv rfl (pv_move rfl) ?_
    obtain ⟨news_7, hs_8⟩ := RdA.src hs
    refine T_cons (op_appendR0 (lt_of rfl) 102 (RowOk.lit0 kGChan S g_2) (hs_8 _ _ (ImLe.refl _)) rfl rfl el22 sz37 zr37 rfl (by decide) bt37 rfl rfl (by first | omega | (simp only [List.length_append, List.length_cons, List.length_nil, List.length_take]; omega)) (by first | omega | (simp only [List.length_append, List.length_cons, List.length_nil, List.length_take]; omega)) fun A_3 c_4 cells_5 hro_6 => ?_)
    refine T_pv rfl (pv_assign rfl) ?_
    refine T_nil ?_
    refine N_then ?_
    refine C_ret0 ?_
    -- ret 1: .slice A_3 s.length c_4
    refine Q_ret (vs := [.slice A_3 s.length c_4]) ⟨rfl, trivial⟩ (L' := [.row (.slice A_3 s.length c_4) 37 9 s.length cells_5]) [102] ⟨rfl, trivial⟩ (by simp) (by decide) (⟨A_3, c_4, s, cells_5, rfl, rfl, rfl, ?_, hro_6⟩)
    · rfl

set_option maxRecDepth 100000 in
theorem f_CloneLB (S : Im) (As : Option Addr) (cs : Nat) (s : List (List Bool)) (hs : RdA (kSl kBool) S As cs s) (p0 : s.length ≤ 1000000000) : Fn Try.prog 11 [.slice As s.length cs] S [] fun v S' L' => ∃ (Ar0 : Option Addr) (cr0 : Nat) (r0 : List (List Bool)) (er0 : List Value), v = .slice Ar0 r0.length cr0 ∧ S = S' ∧ L' = [.row (.slice Ar0 r0.length cr0) 38 1 r0.length er0] ∧ s = r0 ∧ RowOk (kSl kBool) S' Ar0 cr0 er0 r0 := by
  have hb_s := hs.bd
  refine Fn_intro 8 Try.func11 rfl rfl rfl fun w0 => ?_
  refine C_seq ?_
  refine C_region rfl ?_
  refine T_pv rfl (pv_assign rfl) ?_
  refine T_nil ?_
  refine N_then ?_
  refine C_seq ?_
  refine C_seq ?_
  refine C_region rfl ?_
  refine T_pv rfl (pv_move rfl) ?_
  refine T_pv rfl (pv_eqlnil rfl rfl el23) ?_
  refine T_nil ?_
  refine N_then ?_
  refine C_cond rfl (fun hb_1 => ?_) (fun hb_1 => ?_)
  · -- Option.isNone As = true
    refine C_seq ?_
    refine C_region rfl ?_
    refine T_pv rfl (pv_assign rfl) ?_
    refine T_nil ?_
    refine N_then ?_
    refine C_ret0 ?_
    refine R_then ?_
    -- ret 0: .slice none 0 0
    refine G_newNil 101 38 1 ?_
    refine Q_ret (vs := [.slice none 0 0]) ⟨rfl, trivial⟩ (L' := [.row (.slice none 0 0) 38 1 0 []]) [101] ⟨rfl, trivial⟩ (by simp) (by decide) (⟨none, 0, ([] : List (List Bool)), [], rfl, rfl, rfl, ?_, (RowOk.nil _ _)⟩)
    · exact RdA.isNone hs hb_1
  · -- Option.isNone As = false
    refine C_skip ?_
    refine N_then ?_
    refine C_seq ?_
    refine C_region rfl ?_
    refine T_cons (op_buildSlice (cs := []) (lt_of rfl) 102 rfl el23 sz38 zr38 (by decide) (by decide) rfl rfl fun g_2 => ?_)
    refine T_pv rfl (pv_move rfl) ?_
    obtain ⟨news_7, hs_8⟩ := RdA.src hs
    refine T_cons (op_appendR0 (lt_of rfl) 102 (RowOk.lit0 (kSl kBool) S g_2) (hs_8 _ _ (ImLe.refl _)) rfl rfl el23 sz38 zr38 rfl (by decide) bt38 rfl rfl (by first | omega | (simp only [List.length_append, List.length_cons, List.length_nil, List.length_take]; omega)) (by first | omega | (simp only [List.length_append, List.length_cons, List.length_nil, List.length_take]; omega)) fun A_3 c_4 cells_5 hro_6 => ?_)
    refine T_pv rfl (pv_assign rfl) ?_
    refine T_nil ?_
    refine N_then ?_
    refine C_ret0 ?_
    -- ret 1: .slice A_3 s.length c_4
    refine Q_ret (vs := [.slice A_3 s.length c_4]) ⟨rfl, trivial⟩ (L' := [.row (.slice A_3 s.length c_4) 38 1 s.length cells_5]) [102] ⟨rfl, trivial⟩ (by simp) (by decide) (⟨A_3, c_4, s, cells_5, rfl, rfl, rfl, ?_, hro_6⟩)
    · rfl

set_option maxRecDepth 100000 in
theorem f_CloneLS (S : Im) (As : Option Addr) (cs : Nat) (s : List (List GSection)) (hs : RdA (kSl kGSection) S As cs s) (p0 : s.length ≤ 1000000000) : Fn Try.prog 42 [.slice As s.length cs] S [] fun v S' L' => ∃ (Ar0 : Option Addr) (cr0 : Nat) (r0 : List (List GSection)) (er0 : List Value), v = .slice Ar0 r0.length cr0 ∧ S = S' ∧ L' = [.row (.slice Ar0 r0.length cr0) 50 1 r0.length er0] ∧ s = r0 ∧ RowOk (kSl kGSection) S' Ar0 cr0 er0 r0 := by
  have hb_s := hs.bd
  refine Fn_intro 8 Try.func42 rfl rfl rfl fun w0 => ?_
  refine C_seq ?_
  refine C_region rfl ?_
  refine T_pv rfl (pv_assign rfl) ?_
  refine T_nil ?_
  refine N_then ?_
  refine C_seq ?_
  refine C_seq ?_
  refine C_region rfl ?_
  refine T_pv rfl (pv_move rfl) ?_
  refine T_pv rfl (pv_eqlnil rfl rfl el33) ?_
  refine T_nil ?_
  refine N_then ?_
  refine C_cond rfl (fun hb_1 => ?_) (fun hb_1 => ?_)
  · -- Option.isNone As = true
    refine C_seq ?_
    refine C_region rfl ?_
    refine T_pv rfl (pv_assign rfl) ?_
    refine T_nil ?_
    refine N_then ?_
    refine C_ret0 ?_
    refine R_then ?_
    -- ret 0: .slice none 0 0
    refine G_newNil 101 50 1 ?_
    refine Q_ret (vs := [.slice none 0 0]) ⟨rfl, trivial⟩ (L' := [.row (.slice none 0 0) 50 1 0 []]) [101] ⟨rfl, trivial⟩ (by simp) (by decide) (⟨none, 0, ([] : List (List GSection)), [], rfl, rfl, rfl, ?_, (RowOk.nil _ _)⟩)
    · exact RdA.isNone hs hb_1
  · -- Option.isNone As = false
    refine C_skip ?_
    refine N_then ?_
    refine C_seq ?_
    refine C_region rfl ?_
    refine T_cons (op_buildSlice (cs := []) (lt_of rfl) 102 rfl el33 sz50 zr50 (by decide) (by decide) rfl rfl fun g_2 => ?_)
    refine T_pv rfl (pv_move rfl) ?_
    obtain ⟨news_7, hs_8⟩ := RdA.src hs
    refine T_cons (op_appendR0 (lt_of rfl) 102 (RowOk.lit0 (kSl kGSection) S g_2) (hs_8 _ _ (ImLe.refl _)) rfl rfl el33 sz50 zr50 rfl (by decide) bt50 rfl rfl (by first | omega | (simp only [List.length_append, List.length_cons, List.length_nil, List.length_take]; omega)) (by first | omega | (simp only [List.length_append, List.length_cons, List.length_nil, List.length_take]; omega)) fun A_3 c_4 cells_5 hro_6 => ?_)
    refine T_pv rfl (pv_assign rfl) ?_
    refine T_nil ?_
    refine N_then ?_
    refine C_ret0 ?_
    -- ret 1: .slice A_3 s.length c_4
    refine Q_ret (vs := [.slice A_3 s.length c_4]) ⟨rfl, trivial⟩ (L' := [.row (.slice A_3 s.length c_4) 50 1 s.length cells_5]) [102] ⟨rfl, trivial⟩ (by simp) (by decide) (⟨A_3, c_4, s, cells_5, rfl, rfl, rfl, ?_, hro_6⟩)
    · rfl

set_option maxRecDepth 100000 in
theorem f_CloneLI (S : Im) (As : Option Addr) (cs : Nat) (s : List (List Int)) (hs : RdA (kSl (kInt .i64)) S As cs s) (p0 : s.length ≤ 1000000000) : Fn Try.prog 44 [.slice As s.length cs] S [] fun v S' L' => ∃ (Ar0 : Option Addr) (cr0 : Nat) (r0 : List (List Int)) (er0 : List Value), v = .slice Ar0 r0.length cr0 ∧ S = S' ∧ L' = [.row (.slice Ar0 r0.length cr0) 30 1 r0.length er0] ∧ s = r0 ∧ RowOk (kSl (kInt .i64)) S' Ar0 cr0 er0 r0 := by
  have hb_s := hs.bd
  refine Fn_intro 8 Try.func44 rfl rfl rfl fun w0 => ?_
  refine C_seq ?_
  refine C_region rfl ?_
  refine T_pv rfl (pv_assign rfl) ?_
  refine T_nil ?_
  refine N_then ?_
  refine C_seq ?_
  refine C_seq ?_
  refine C_region rfl ?_
  refine T_pv rfl (pv_move rfl) ?_
  refine T_pv rfl (pv_eqlnil rfl rfl el34) ?_
  refine T_nil ?_
  refine N_then ?_
  refine C_cond rfl (fun hb_1 => ?_) (fun hb_1 => ?_)
  · -- Option.isNone As = true
    refine C_seq ?_
    refine C_region rfl ?_
    refine T_pv rfl (pv_assign rfl) ?_
    refine T_nil ?_
    refine N_then ?_
    refine C_ret0 ?_
    refine R_then ?_
    -- ret 0: .slice none 0 0
    refine G_newNil 101 30 1 ?_
    refine Q_ret (vs := [.slice none 0 0]) ⟨rfl, trivial⟩ (L' := [.row (.slice none 0 0) 30 1 0 []]) [101] ⟨rfl, trivial⟩ (by simp) (by decide) (⟨none, 0, ([] : List (List Int)), [], rfl, rfl, rfl, ?_, (RowOk.nil _ _)⟩)
    · exact RdA.isNone hs hb_1
  · -- Option.isNone As = false
    refine C_skip ?_
    refine N_then ?_
    refine C_seq ?_
    refine C_region rfl ?_
    refine T_cons (op_buildSlice (cs := []) (lt_of rfl) 102 rfl el34 sz30 zr30 (by decide) (by decide) rfl rfl fun g_2 => ?_)
    refine T_pv rfl (pv_move rfl) ?_
    obtain ⟨news_7, hs_8⟩ := RdA.src hs
    refine T_cons (op_appendR0 (lt_of rfl) 102 (RowOk.lit0 (kSl (kInt .i64)) S g_2) (hs_8 _ _ (ImLe.refl _)) rfl rfl el34 sz30 zr30 rfl (by decide) bt30 rfl rfl (by first | omega | (simp only [List.length_append, List.length_cons, List.length_nil, List.length_take]; omega)) (by first | omega | (simp only [List.length_append, List.length_cons, List.length_nil, List.length_take]; omega)) fun A_3 c_4 cells_5 hro_6 => ?_)
    refine T_pv rfl (pv_assign rfl) ?_
    refine T_nil ?_
    refine N_then ?_
    refine C_ret0 ?_
    -- ret 1: .slice A_3 s.length c_4
    refine Q_ret (vs := [.slice A_3 s.length c_4]) ⟨rfl, trivial⟩ (L' := [.row (.slice A_3 s.length c_4) 30 1 s.length cells_5]) [102] ⟨rfl, trivial⟩ (by simp) (by decide) (⟨A_3, c_4, s, cells_5, rfl, rfl, rfl, ?_, hro_6⟩)
    · rfl

set_option maxRecDepth 100000 in
theorem f_CloneLF (S : Im) (As : Option Addr) (cs : Nat) (s : List (List GFilter)) (hs : RdA (kSl kGFilter) S As cs s) (p0 : s.length ≤ 1000000000) : Fn Try.prog 45 [.slice As s.length cs] S [] fun v S' L' => ∃ (Ar0 : Option Addr) (cr0 : Nat) (r0 : List (List GFilter)) (er0 : List Value), v = .slice Ar0 r0.length cr0 ∧ S = S' ∧ L' = [.row (.slice Ar0 r0.length cr0) 51 1 r0.length er0] ∧ s = r0 ∧ RowOk (kSl kGFilter) S' Ar0 cr0 er0 r0 := by
  have hb_s := hs.bd
  refine Fn_intro 8 Try.func45 rfl rfl rfl fun w0 => ?_
  refine C_seq ?_
  refine C_region rfl ?_
  refine T_pv rfl (pv_assign rfl) ?_
  refine T_nil ?_
  refine N_then ?_
  refine C_seq ?_
  refine C_seq ?_
  refine C_region rfl ?_
  refine T_pv rfl (pv_move rfl) ?_
  refine T_pv rfl (pv_eqlnil rfl rfl el35) ?_
  refine T_nil ?_
  refine N_then ?_
  refine C_cond rfl (fun hb_1 => ?_) (fun hb_1 => ?_)
  · -- Option.isNone As = true
    refine C_seq ?_
    refine C_region rfl ?_
    refine T_pv rfl (pv_assign rfl) ?_
    refine T_nil ?_
    refine N_then ?_
    refine C_ret0 ?_
    refine R_then ?_
    -- ret 0: .slice none 0 0
    refine G_newNil 101 51 1 ?_
    refine Q_ret (vs := [.slice none 0 0]) ⟨rfl, trivial⟩ (L' := [.row (.slice none 0 0) 51 1 0 []]) [101] ⟨rfl, trivial⟩ (by simp) (by decide) (⟨none, 0, ([] : List (List GFilter)), [], rfl, rfl, rfl, ?_, (RowOk.nil _ _)⟩)
    · exact RdA.isNone hs hb_1
  · -- Option.isNone As = false
    refine C_skip ?_
    refine N_then ?_
    refine C_seq ?_
    refine C_region rfl ?_
    refine T_cons (op_buildSlice (cs := []) (lt_of rfl) 102 rfl el35 sz51 zr51 (by decide) (by decide) rfl rfl fun g_2 => ?_)
    refine T_pv rfl (pv_move rfl) ?_
    obtain ⟨news_7, hs_8⟩ := RdA.src hs
    refine T_cons (op_appendR0 (lt_of rfl) 102 (RowOk.lit0 (kSl kGFilter) S g_2) (hs_8 _ _ (ImLe.refl _)) rfl rfl el35 sz51 zr51 rfl (by decide) bt51 rfl rfl (by first | omega | (simp only [List.length_append, List.length_cons, List.length_nil, List.length_take]; omega)) (by first | omega | (simp only [List.length_append, List.length_cons, List.length_nil, List.length_take]; omega)) fun A_3 c_4 cells_5 hro_6 => ?_)
    refine T_pv rfl (pv_assign rfl) ?_
    refine T_nil ?_
    refine N_then ?_
    refine C_ret0 ?_
    -- ret 1: .slice A_3 s.length c_4
    refine Q_ret (vs := [.slice A_3 s.length c_4]) ⟨rfl, trivial⟩ (L' := [.row (.slice A_3 s.length c_4) 51 1 s.length cells_5]) [102] ⟨rfl, trivial⟩ (by simp) (by decide) (⟨A_3, c_4, s, cells_5, rfl, rfl, rfl, ?_, hro_6⟩)
    · rfl

set_option maxRecDepth 100000 in
theorem f_info_Twin (S : Im) (a : GInfo) (ha0 : InR .u8 a.seq) (ha1 : InR .u8 a.shape) (ha2 : InR .i64 a.max) (Aa3 : Option Addr) (ca3 : Nat) (ha3 : RdA (kInt .i64) S Aa3 ca3 a.groups) (p0 : a.groups.length ≤ 2000) : Fn Try.prog 22 [.agg #[.int .u8 a.seq, .int .u8 a.shape, .int .i64 a.max, .slice Aa3 a.groups.length ca3]] S [] fun v S' L' => ∃ (ur0 : List Value) (r0 : GInfo), v = .agg ur0.toArray ∧ L' = [] ∧ a = r0 ∧ kGInfo.K (S'.minus S) ur0 r0 := by
  have hb_a0 := InR.u8 ha0
  have hb_a1 := InR.u8 ha1
  have hb_a2 := InR.i64 ha2
  have hb_a3 := ha3.bd
  refine Fn_intro 8 Try.func22 rfl rfl rfl fun w0 => ?_
  refine C_seq ?_
  refine C_region rfl ?_
  refine T_cons (op_box (cs := [.int .u8 a.seq, .int .u8 a.shape, .int .i64 a.max, .slice Aa3 a.groups.length ca3]) (lt_of rfl) 101 rfl rfl fun g_1 => ?_)
  refine T_cons (op_alloc (cs := [.int .u8 0, .int .u8 0, .int .i64 0, .slice none 0 0]) (lt_of rfl) 102 zr32 rfl fun g_2 => ?_)
  refine T_nil ?_
  refine N_then ?_
  refine C_seq ?_
  refine C_region rfl ?_
  refine T_pv rfl (pv_fieldAddr rfl fl_32_3) ?_
  refine T_pv rfl (pv_load rfl ag30 (Cell.blk 101 rfl rfl)) ?_
  refine T_cons (op_call (fun _ h => by cases h; exact lt_of rfl) rfl rfl rfl en26 (f_CloneI _ _ _ a.groups ha3 (by omega)) [103] trivial (by simp) (by decide) ?_)
  rintro v_10 S_8 L_11 ⟨A_3, c_4, r_5, cells_6, rfl, rfl, rfl, rfl, h_7⟩ hle_9
  have hb_12 := h_7.bd
  refine ⟨rfl, ?_⟩
  refine T_pv rfl (pv_fieldAddr rfl fl_32_3) ?_
  refine T_cons (op_store_any (vs := [.slice A_3 a.groups.length c_4]) (cs' := [.int .u8 a.seq, .int .u8 a.shape, .int .i64 a.max, .slice A_3 a.groups.length c_4]) 101 rfl rfl rfl sz30 (by simp [Value.oneCell']) rfl (Nat.le_of_ble_eq_true rfl) rfl ?_)
  refine T_nil ?_
  refine N_then ?_
  refine C_seq ?_
  refine C_region rfl ?_
  refine T_pv rfl (pv_load_agg (cs := [.int .u8 a.seq, .int .u8 a.shape, .int .i64 a.max, .slice A_3 a.groups.length c_4]) rfl ag32 sz32 rfl ⟨Cell.blk 101 rfl rfl, Cell.blk 101 rfl rfl, Cell.blk 101 rfl rfl, Cell.blk 101 rfl rfl, trivial⟩) ?_
  refine T_cons (op_store_any (vs := [.int .u8 a.seq, .int .u8 a.shape, .int .i64 a.max, .slice A_3 a.groups.length c_4]) (cs' := [.int .u8 a.seq, .int .u8 a.shape, .int .i64 a.max, .slice A_3 a.groups.length c_4]) 102 rfl rfl rfl sz32 (by simp [Value.oneCell']) rfl (Nat.le_of_ble_eq_true rfl) rfl ?_)
  refine T_nil ?_
  refine N_then ?_
  refine C_ret0 ?_
  -- ret 0: .agg #[.int .u8 a.seq, .int .u8 a.shape, .int .i64 a.max, .slice A_3 a.groups.length c_4]
  refine G_freeze 103 rfl (fun S_13 hle_14 hz_15 => ?_)
  have hf_17 : RdA (kInt .i64) (S_13.minus S) A_3 c_4 a.groups := (hz_15 _ (ImLe.refl _) (kInt .i64) _ rfl (RowOk.any (S' := (S.minus S)) (fun _ _ _ _ h => h) h_7).len (((RowOk.any (S' := (S.minus S)) (fun _ _ _ _ h => h) h_7).mono (Im.minus_mono hle_14)).rd))
  refine Q_ret (vs := [.agg #[.int .u8 a.seq, .int .u8 a.shape, .int .i64 a.max, .slice A_3 a.groups.length c_4]]) ⟨⟨_, rfl, .inr ⟨[.int .u8 a.seq, .int .u8 a.shape, .int .i64 a.max, .slice A_3 a.groups.length c_4], rfl, ag32, sz32, ⟨Cell.blk 102 rfl rfl, Cell.blk 102 rfl rfl, Cell.blk 102 rfl rfl, Cell.blk 102 rfl rfl, trivial⟩, rfl⟩⟩, trivial⟩ (L' := []) [] trivial (by simp) (by decide) (⟨_, a, rfl, rfl, ?_, ⟨_, _, rfl, ha0, ha1, ha2, hf_17⟩⟩)
  · first | rfl | (simp [*]; done) | (simp_all; done)

set_option maxRecDepth 100000 in
theorem f_r10_Twin (S : Im) (a : GInfo) (ha0 : InR .u8 a.seq) (ha1 : InR .u8 a.shape) (ha2 : InR .i64 a.max) (Aa3 : Option Addr) (ca3 : Nat) (ha3 : RdA (kInt .i64) S Aa3 ca3 a.groups) (p0 : a.groups.length ≤ 2000) : Fn Try.prog 41 [.agg #[.int .u8 a.seq, .int .u8 a.shape, .int .i64 a.max, .slice Aa3 a.groups.length ca3]] S [] fun v S' L' => ∃ (ur0 : List Value) (r0 : GInfo), v = .agg ur0.toArray ∧ L' = [] ∧ a = r0 ∧ kGInfo.K (S'.minus S) ur0 r0 := by
  have hb_a0 := InR.u8 ha0
  have hb_a1 := InR.u8 ha1
  have hb_a2 := InR.i64 ha2
  have hb_a3 := ha3.bd
  refine Fn_intro 10 Try.func41 rfl rfl rfl fun w0 => ?_
  refine C_seq ?_
  refine C_region rfl ?_
  refine T_cons (op_box (cs := [.int .u8 a.seq, .int .u8 a.shape, .int .i64 a.max, .slice Aa3 a.groups.length ca3]) (lt_of rfl) 101 rfl rfl fun g_1 => ?_)
  refine T_cons (op_alloc (cs := [.int .u8 0, .int .u8 0, .int .i64 0, .slice none 0 0]) (lt_of rfl) 102 zr32 rfl fun g_2 => ?_)
  refine T_nil ?_
  refine N_then ?_
  refine C_seq ?_
  refine C_region rfl ?_
  refine T_pv rfl (pv_assign rfl) ?_
  refine T_nil ?_
  refine N_then ?_
  refine C_seq ?_
  refine C_region rfl ?_
  refine T_pv rfl (pv_move rfl) ?_
  refine T_pv rfl (pv_fieldAddr rfl fl_32_3) ?_
  refine T_pv rfl (pv_load rfl ag30 (Cell.blk 101 rfl rfl)) ?_
  refine T_newNil 103 3 1 ?_
  obtain ⟨news_7, hs_8⟩ := RdA.src ha3
  refine T_cons (op_appendR0 (lt_of rfl) 103 (RowOk.any (S' := (S.minus S)) (fun _ _ _ _ h => h) (RowOk.nil (kInt .i64) S)) (Src.any (fun _ _ _ _ h => h) (hs_8 _ _ (ImLe.refl _))) rfl rfl el30 sz3 zr3 rfl (by decide) bt3 rfl rfl (by first | omega | (simp only [List.length_append, List.length_cons, List.length_nil, List.length_take]; omega)) (by first | omega | (simp only [List.length_append, List.length_cons, List.length_nil, List.length_take]; omega)) fun A_3 c_4 cells_5 hro_6 => ?_)
  refine T_pv rfl (pv_fieldAddr rfl fl_32_3) ?_
  refine T_cons (op_store_any (vs := [.slice A_3 a.groups.length c_4]) (cs' := [.int .u8 a.seq, .int .u8 a.shape, .int .i64 a.max, .slice A_3 a.groups.length c_4]) 101 rfl rfl rfl sz30 (by simp [Value.oneCell']) rfl (Nat.le_of_ble_eq_true rfl) rfl ?_)
  refine T_nil ?_
  refine N_then ?_
  refine C_seq ?_
  refine C_region rfl ?_
  refine T_pv rfl (pv_load_agg (cs := [.int .u8 a.seq, .int .u8 a.shape, .int .i64 a.max, .slice A_3 a.groups.length c_4]) rfl ag32 sz32 rfl ⟨Cell.blk 101 rfl rfl, Cell.blk 101 rfl rfl, Cell.blk 101 rfl rfl, Cell.blk 101 rfl rfl, trivial⟩) ?_
  refine T_cons (op_store_any (vs := [.int .u8 a.seq, .int .u8 a.shape, .int .i64 a.max, .slice A_3 a.groups.length c_4]) (cs' := [.int .u8 a.seq, .int .u8 a.shape, .int .i64 a.max, .slice A_3 a.groups.length c_4]) 102 rfl rfl rfl sz32 (by simp [Value.oneCell']) rfl (Nat.le_of_ble_eq_true rfl) rfl ?_)
  refine T_nil ?_
  refine N_then ?_
  refine C_ret0 ?_
  -- ret 0: .agg #[.int .u8 a.seq, .int .u8 a.shape, .int .i64 a.max, .slice A_3 a.groups.length c_4]
  refine G_freeze 103 rfl (fun S_9 hle_10 hz_11 => ?_)
  have hf_13 : RdA (kInt .i64) (S_9.minus S) A_3 c_4 a.groups := (hz_11 _ (ImLe.refl _) (kInt .i64) _ rfl hro_6.len ((hro_6.mono (Im.minus_mono hle_10)).rd))
  refine Q_ret (vs := [.agg #[.int .u8 a.seq, .int .u8 a.shape, .int .i64 a.max, .slice A_3 a.groups.length c_4]]) ⟨⟨_, rfl, .inr ⟨[.int .u8 a.seq, .int .u8 a.shape, .int .i64 a.max, .slice A_3 a.groups.length c_4], rfl, ag32, sz32, ⟨Cell.blk 102 rfl rfl, Cell.blk 102 rfl rfl, Cell.blk 102 rfl rfl, Cell.blk 102 rfl rfl, trivial⟩, rfl⟩⟩, trivial⟩ (L' := []) [] trivial (by simp) (by decide) (⟨_, a, rfl, rfl, ?_, ⟨_, _, rfl, ha0, ha1, ha2, hf_13⟩⟩)
  · first | rfl | (simp [*]; done) | (simp_all; done)

end Go.Proofs.Ythamgiecgilmdaa
