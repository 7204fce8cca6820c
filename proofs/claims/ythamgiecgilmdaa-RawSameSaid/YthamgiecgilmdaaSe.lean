/- Walks, printed by wip/tool/walk2.py. -/
import Derived.Test.YthamgiecgilmdaaSc
import Derived.Test.YthamgiecgilmdaaRbQ
namespace Go.Proofs.Ythamgiecgilmdaa
open Go Go.RowKit

set_option maxRecDepth 100000 in
theorem f_twinsS (S : Im) (As : Option Addr) (cs : Nat) (s : List (List GSection)) (hs : RdA (kSl kGSection) S As cs s) (p0 : s.length ≤ 2000) (p1 : AllL lenL s) : Fn Try.prog 23 [.slice As s.length cs] S [] fun v S' L' => ∃ (Ar0 : Option Addr) (cr0 : Nat) (r0 : List (List GSection)) (er0 : List Value), v = .slice Ar0 r0.length cr0 ∧ L' = [.row (.slice Ar0 r0.length cr0) 50 1 r0.length er0] ∧ s = r0 ∧ RowOk (kSl kGSection) (S'.minus S) Ar0 cr0 er0 r0 := by
  have hb_s := hs.bd
  refine Fn_intro 21 Try.func23 rfl rfl rfl fun w0 => ?_
  refine C_seq ?_
  refine C_region rfl ?_
  refine T_pv rfl (pv_assign rfl) ?_
  refine T_nil ?_
  refine N_then ?_
  refine C_seq ?_
  refine C_region rfl ?_
  refine T_pv rfl (pv_move rfl) ?_
  refine T_cons (op_call (fun _ h => by cases h; exact lt_of rfl) rfl rfl rfl en42 (f_CloneLS _ _ _ s hs (by omega)) [101] trivial (by simp) (by decide) ?_)
  rintro v_8 S_6 L_9 ⟨A_1, c_2, r_3, cells_4, rfl, rfl, rfl, rfl, h_5⟩ hle_7
  have hb_10 := h_5.bd
  refine ⟨rfl, ?_⟩
  refine T_pv rfl (pv_assign rfl) ?_
  refine T_nil ?_
  refine N_then ?_
  refine C_seq ?_
  refine C_seq ?_
  refine C_region rfl ?_
  refine T_pv rfl (pv_move rfl) ?_
  refine T_pv rfl (pv_len rfl el33) ?_
  refine T_pv rfl (pv_move rfl) ?_
  refine T_nil ?_
  refine N_then ?_
  refine C_block ?_
  refine C_loop (fun (x : Int × Im × (List Value)) => (x.2.1, [(101, .row (.slice A_1 s.length c_2) 50 1 s.length x.2.2)], [(0, .slice A_1 s.length c_2), (2, .slice none 0 0), (4, .slice As s.length cs), (5, .slice A_1 s.length c_2), (6, .slice A_1 s.length c_2), (7, .int .i64 (s.length : Int)), (8, .int .i64 x.1)])) (fun (x : Int × Im × (List Value)) => ImLe S x.2.1 ∧ 0 ≤ x.1 ∧ x.1 ≤ s.length ∧ RowOk (kSl kGSection) x.2.1 A_1 c_2 x.2.2 s ∧ RdL (kSl kGSection) (x.2.1.minus S) (x.2.2.take ((x.1).toNat * 1)) (s.take (x.1).toNat)) (fun (x : Int × Im × (List Value)) => (s.length - x.1).toNat) ((0, S, cells_4)) ⟨(ImLe.refl _), ⟨by omega, by omega, h_5, by simp [RdL]⟩⟩ rfl ⟨rfl, trivial⟩ ⟨rfl, rfl, rfl, rfl, rfl, rfl, rfl, trivial⟩ ?_
  rintro ⟨i, T1, e⟩ ⟨hle_11, ⟨q0, q1, q2, q3⟩⟩
  dsimp only at *
  refine C_seq ?_
  refine C_region rfl ?_
  refine T_pv rfl (pv_lss rfl rfl) ?_
  refine T_nil ?_
  refine N_then ?_
  refine C_seq ?_
  refine C_cond rfl (fun hb_12 => ?_) (fun hb_12 => ?_)
  · -- decide (i < (s.length : Int)) = true
    have hx_13 := of_decide_eq_true hb_12
    refine C_skip ?_
    refine N_then ?_
    refine C_seq ?_
    refine C_block ?_
    refine C_seq ?_
    refine C_region rfl ?_
    refine T_pv rfl (pv_move rfl) ?_
    refine T_pv rfl (pv_assign rfl) ?_
    refine T_nil ?_
    refine N_then ?_
    refine C_region rfl ?_
    refine T_pv rfl (pv_move rfl) ?_
    refine T_pv rfl (pv_move rfl) ?_
    refine T_pv rfl (pv_move rfl) ?_
    refine T_pv rfl (pv_move rfl) ?_
    obtain ⟨us_14, hk_15, hcut_17, he_16⟩ := RowOk.elt q2 (i := i) (by omega) (by omega)
    clear hcut_17
    obtain ⟨A_18, c_19, rfl, h_20⟩ := hk_15
    have hb_21 := h_20.bd
    refine T_pv rfl (pv_idxrow q2 rfl rfl el33 sz50 (by omega) (by omega)) ?_
    refine T_pv rfl (pv_load rfl ag50 ((he_16 _ _ 101 _ _ rfl).zero rfl)) ?_
    have zz : _ ≤ 2000 := p1.at_ (i := i) (by omega) (by omega)
    refine T_cons (op_call (fun _ h => by cases h; exact lt_of rfl) rfl rfl rfl en43 (f_CloneS _ _ _ (s.getD (i).toNat default) h_20 (by omega)) [102] trivial (by simp) (by decide) ?_)
    rintro v_29 S_27 L_30 ⟨A_22, c_23, r_24, cells_25, rfl, rfl, rfl, rfl, h_26⟩ hle_28
    have hb_31 := h_26.bd
    refine ⟨rfl, ?_⟩
    refine T_pv rfl (pv_idxrow q2 rfl rfl el33 sz50 (by omega) (by omega)) ?_
    refine T_freezeRow 102 rfl (fun S_32 hle_33 hz_34 => ?_)
    have hf_36 : RdA kGSection (S_32.minus S) A_22 c_23 (s.getD (i).toNat default) := (hz_34 _ hle_11 kGSection _ rfl (RowOk.any (S' := (T1.minus S)) (fun _ _ _ _ h => h) h_26).len (((RowOk.any (S' := (T1.minus S)) (fun _ _ _ _ h => h) h_26).mono (Im.minus_mono hle_33)).rd))
    have hro_38 : RowOk (kSl kGSection) S_32 A_1 c_2 (putc e ((i).toNat * 1) [.slice A_22 ((s.getD (i).toNat default).length) c_23]) (s.set (i).toNat (s.getD (i).toNat default)) := RowOk.put (q2.mono hle_33) ⟨_, _, rfl, (hf_36.mono Im.minus_le)⟩ (by omega) (by omega)
    have hfit_39 : (i).toNat * 1 + 1 ≤ (e).length := by rw [q2.len]; show _ ≤ _ * 1; omega
    refine T_cons (op_storeR (vs := [.slice A_22 ((s.getD (i).toNat default).length) c_23]) 101 q2.pl rfl rfl rfl sz50 (by simp [Value.oneCell']) rfl (by omega) hfit_39 ?_)
    refine T_nil ?_
    refine N_block ?_
    refine N_then ?_
    refine C_region rfl ?_
    have hr_40 : InR .i64 (i + 1) := inR_i64 (by omega) (by omega)
    refine T_pv rfl (pv_add rfl rfl hr_40) ?_
    refine T_pv rfl (pv_move rfl) ?_
    refine T_nil ?_
    refine N_next ((i + 1, S_32, putc e ((i).toNat * 1) [.slice A_22 ((s.getD (i).toNat default).length) c_23])) ⟨(ImLe.trans hle_11 hle_33), ⟨by omega, by omega, RowOk.putsame hro_38 (by omega) (by omega), RdL.pre (d := (kSl kGSection)) (RdL.mono (Im.minus_mono hle_33) q3) (by rw [q2.len]) ⟨_, _, rfl, hf_36⟩ (by omega) (by omega)⟩⟩ (by first | omega | (dsimp only; omega)) rfl ⟨rfl, trivial⟩ ⟨rfl, rfl, rfl, rfl, rfl, rfl, rfl, trivial⟩
  · -- decide (i < (s.length : Int)) = false
    have hx_41 := of_decide_eq_false hb_12
    refine C_exit ?_
    refine X_then ?_
    refine X_loop ?_
    refine X_block ?_
    refine N_then ?_
    refine C_seq ?_
    refine C_region rfl ?_
    refine T_pv rfl (pv_move rfl) ?_
    refine T_pv rfl (pv_assign rfl) ?_
    refine T_nil ?_
    refine N_then ?_
    refine C_ret0 ?_
    -- ret 0: .slice A_1 s.length c_2
    refine Q_ret (vs := [.slice A_1 s.length c_2]) ⟨rfl, trivial⟩ (L' := [.row (.slice A_1 s.length c_2) 50 1 s.length e]) [101] ⟨rfl, trivial⟩ (by simp) (by decide) (⟨A_1, c_2, s, e, rfl, rfl, ?_, (RowOk.whole (S' := (T1.minus S)) q2 q3 (by omega) (by omega))⟩)
    · rfl

set_option maxRecDepth 100000 in
theorem f_twinsI (S : Im) (As : Option Addr) (cs : Nat) (s : List (List Int)) (hs : RdA (kSl (kInt .i64)) S As cs s) (p0 : s.length ≤ 2000) (p1 : AllL lenL s) : Fn Try.prog 24 [.slice As s.length cs] S [] fun v S' L' => ∃ (Ar0 : Option Addr) (cr0 : Nat) (r0 : List (List Int)) (er0 : List Value), v = .slice Ar0 r0.length cr0 ∧ L' = [.row (.slice Ar0 r0.length cr0) 30 1 r0.length er0] ∧ s = r0 ∧ RowOk (kSl (kInt .i64)) (S'.minus S) Ar0 cr0 er0 r0 := by
  have hb_s := hs.bd
  refine Fn_intro 21 Try.func24 rfl rfl rfl fun w0 => ?_
  refine C_seq ?_
  refine C_region rfl ?_
  refine T_pv rfl (pv_assign rfl) ?_
  refine T_nil ?_
  refine N_then ?_
  refine C_seq ?_
  refine C_region rfl ?_
  refine T_pv rfl (pv_move rfl) ?_
  refine T_cons (op_call (fun _ h => by cases h; exact lt_of rfl) rfl rfl rfl en44 (f_CloneLI _ _ _ s hs (by omega)) [101] trivial (by simp) (by decide) ?_)
  rintro v_8 S_6 L_9 ⟨A_1, c_2, r_3, cells_4, rfl, rfl, rfl, rfl, h_5⟩ hle_7
  have hb_10 := h_5.bd
  refine ⟨rfl, ?_⟩
  refine T_pv rfl (pv_assign rfl) ?_
  refine T_nil ?_
  refine N_then ?_
  refine C_seq ?_
  refine C_seq ?_
  refine C_region rfl ?_
  refine T_pv rfl (pv_move rfl) ?_
  refine T_pv rfl (pv_len rfl el34) ?_
  refine T_pv rfl (pv_move rfl) ?_
  refine T_nil ?_
  refine N_then ?_
  refine C_block ?_
  refine C_loop (fun (x : Int × Im × (List Value)) => (x.2.1, [(101, .row (.slice A_1 s.length c_2) 30 1 s.length x.2.2)], [(0, .slice A_1 s.length c_2), (2, .slice none 0 0), (4, .slice As s.length cs), (5, .slice A_1 s.length c_2), (6, .slice A_1 s.length c_2), (7, .int .i64 (s.length : Int)), (8, .int .i64 x.1)])) (fun (x : Int × Im × (List Value)) => ImLe S x.2.1 ∧ 0 ≤ x.1 ∧ x.1 ≤ s.length ∧ RowOk (kSl (kInt .i64)) x.2.1 A_1 c_2 x.2.2 s ∧ RdL (kSl (kInt .i64)) (x.2.1.minus S) (x.2.2.take ((x.1).toNat * 1)) (s.take (x.1).toNat)) (fun (x : Int × Im × (List Value)) => (s.length - x.1).toNat) ((0, S, cells_4)) ⟨(ImLe.refl _), ⟨by omega, by omega, h_5, by simp [RdL]⟩⟩ rfl ⟨rfl, trivial⟩ ⟨rfl, rfl, rfl, rfl, rfl, rfl, rfl, trivial⟩ ?_
  rintro ⟨i, T1, e⟩ ⟨hle_11, ⟨q0, q1, q2, q3⟩⟩
  dsimp only at *
  refine C_seq ?_
  refine C_region rfl ?_
  refine T_pv rfl (pv_lss rfl rfl) ?_
  refine T_nil ?_
  refine N_then ?_
  refine C_seq ?_
  refine C_cond rfl (fun hb_12 => ?_) (fun hb_12 => ?_)
  · -- decide (i < (s.length : Int)) = true
    have hx_13 := of_decide_eq_true hb_12
    refine C_skip ?_
    refine N_then ?_
    refine C_seq ?_
    refine C_block ?_
    refine C_seq ?_
    refine C_region rfl ?_
    refine T_pv rfl (pv_move rfl) ?_
    refine T_pv rfl (pv_assign rfl) ?_
    refine T_nil ?_
    refine N_then ?_
    refine C_region rfl ?_
    refine T_pv rfl (pv_move rfl) ?_
    refine T_pv rfl (pv_move rfl) ?_
    refine T_pv rfl (pv_move rfl) ?_
    refine T_pv rfl (pv_move rfl) ?_
    obtain ⟨us_14, hk_15, hcut_17, he_16⟩ := RowOk.elt q2 (i := i) (by omega) (by omega)
    clear hcut_17
    obtain ⟨A_18, c_19, rfl, h_20⟩ := hk_15
    have hb_21 := h_20.bd
    refine T_pv rfl (pv_idxrow q2 rfl rfl el34 sz30 (by omega) (by omega)) ?_
    refine T_pv rfl (pv_load rfl ag30 ((he_16 _ _ 101 _ _ rfl).zero rfl)) ?_
    have zz : _ ≤ 2000 := p1.at_ (i := i) (by omega) (by omega)
    refine T_cons (op_call (fun _ h => by cases h; exact lt_of rfl) rfl rfl rfl en26 (f_CloneI _ _ _ (s.getD (i).toNat default) h_20 (by omega)) [102] trivial (by simp) (by decide) ?_)
    rintro v_29 S_27 L_30 ⟨A_22, c_23, r_24, cells_25, rfl, rfl, rfl, rfl, h_26⟩ hle_28
    have hb_31 := h_26.bd
    refine ⟨rfl, ?_⟩
    refine T_pv rfl (pv_idxrow q2 rfl rfl el34 sz30 (by omega) (by omega)) ?_
    refine T_freezeRow 102 rfl (fun S_32 hle_33 hz_34 => ?_)
    have hf_36 : RdA (kInt .i64) (S_32.minus S) A_22 c_23 (s.getD (i).toNat default) := (hz_34 _ hle_11 (kInt .i64) _ rfl (RowOk.any (S' := (T1.minus S)) (fun _ _ _ _ h => h) h_26).len (((RowOk.any (S' := (T1.minus S)) (fun _ _ _ _ h => h) h_26).mono (Im.minus_mono hle_33)).rd))
    have hro_38 : RowOk (kSl (kInt .i64)) S_32 A_1 c_2 (putc e ((i).toNat * 1) [.slice A_22 ((s.getD (i).toNat default).length) c_23]) (s.set (i).toNat (s.getD (i).toNat default)) := RowOk.put (q2.mono hle_33) ⟨_, _, rfl, (hf_36.mono Im.minus_le)⟩ (by omega) (by omega)
    have hfit_39 : (i).toNat * 1 + 1 ≤ (e).length := by rw [q2.len]; show _ ≤ _ * 1; omega
    refine T_cons (op_storeR (vs := [.slice A_22 ((s.getD (i).toNat default).length) c_23]) 101 q2.pl rfl rfl rfl sz30 (by simp [Value.oneCell']) rfl (by omega) hfit_39 ?_)
    refine T_nil ?_
    refine N_block ?_
    refine N_then ?_
    refine C_region rfl ?_
    have hr_40 : InR .i64 (i + 1) := inR_i64 (by omega) (by omega)
    refine T_pv rfl (pv_add rfl rfl hr_40) ?_
    refine T_pv rfl (pv_move rfl) ?_
    refine T_nil ?_
    refine N_next ((i + 1, S_32, putc e ((i).toNat * 1) [.slice A_22 ((s.getD (i).toNat default).length) c_23])) ⟨(ImLe.trans hle_11 hle_33), ⟨by omega, by omega, RowOk.putsame hro_38 (by omega) (by omega), RdL.pre (d := (kSl (kInt .i64))) (RdL.mono (Im.minus_mono hle_33) q3) (by rw [q2.len]) ⟨_, _, rfl, hf_36⟩ (by omega) (by omega)⟩⟩ (by first | omega | (dsimp only; omega)) rfl ⟨rfl, trivial⟩ ⟨rfl, rfl, rfl, rfl, rfl, rfl, rfl, trivial⟩
  · -- decide (i < (s.length : Int)) = false
    have hx_41 := of_decide_eq_false hb_12
    refine C_exit ?_
    refine X_then ?_
    refine X_loop ?_
    refine X_block ?_
    refine N_then ?_
    refine C_seq ?_
    refine C_region rfl ?_
    refine T_pv rfl (pv_move rfl) ?_
    refine T_pv rfl (pv_assign rfl) ?_
    refine T_nil ?_
    refine N_then ?_
    refine C_ret0 ?_
    -- ret 0: .slice A_1 s.length c_2
    refine Q_ret (vs := [.slice A_1 s.length c_2]) ⟨rfl, trivial⟩ (L' := [.row (.slice A_1 s.length c_2) 30 1 s.length e]) [101] ⟨rfl, trivial⟩ (by simp) (by decide) (⟨A_1, c_2, s, e, rfl, rfl, ?_, (RowOk.whole (S' := (T1.minus S)) q2 q3 (by omega) (by omega))⟩)
    · rfl

set_option maxRecDepth 100000 in
theorem f_twinsF (S : Im) (As : Option Addr) (cs : Nat) (s : List (List GFilter)) (hs : RdA (kSl kGFilter) S As cs s) (p0 : s.length ≤ 2000) (p1 : AllL (fun t : List GFilter => t.length ≤ 2000 ∧ AllL (fun f : GFilter => f.coefs.length ≤ 2000) t) s) : Fn Try.prog 25 [.slice As s.length cs] S [] fun v S' L' => ∃ (Ar0 : Option Addr) (cr0 : Nat) (r0 : List (List GFilter)) (er0 : List Value), v = .slice Ar0 r0.length cr0 ∧ L' = [.row (.slice Ar0 r0.length cr0) 51 1 r0.length er0] ∧ s = r0 ∧ RowOk (kSl kGFilter) S' Ar0 cr0 er0 r0 ∧ RdL (kSl (kAnyN 5)) (S'.minus S) er0 (r0.map shp) := by
  have hb_s := hs.bd
  refine Fn_intro 21 Try.func25 rfl rfl rfl fun w0 => ?_
  refine C_seq ?_
  refine C_region rfl ?_
  refine T_pv rfl (pv_assign rfl) ?_
  refine T_nil ?_
  refine N_then ?_
  refine C_seq ?_
  refine C_region rfl ?_
  refine T_pv rfl (pv_move rfl) ?_
  refine T_cons (op_call (fun _ h => by cases h; exact lt_of rfl) rfl rfl rfl en45 (f_CloneLF _ _ _ s hs (by omega)) [101] trivial (by simp) (by decide) ?_)
  rintro v_8 S_6 L_9 ⟨A_1, c_2, r_3, cells_4, rfl, rfl, rfl, rfl, h_5⟩ hle_7
  have hb_10 := h_5.bd
  refine ⟨rfl, ?_⟩
  refine T_pv rfl (pv_assign rfl) ?_
  refine T_nil ?_
  refine N_then ?_
  refine C_seq ?_
  refine C_seq ?_
  refine C_region rfl ?_
  refine T_pv rfl (pv_move rfl) ?_
  refine T_pv rfl (pv_len rfl el35) ?_
  refine T_pv rfl (pv_move rfl) ?_
  refine T_nil ?_
  refine N_then ?_
  refine C_block ?_
  refine C_loop (fun (x : Int × Im × (List Value)) => (x.2.1, [(101, .row (.slice A_1 s.length c_2) 51 1 s.length x.2.2)], [(0, .slice A_1 s.length c_2), (2, .slice none 0 0), (4, .slice As s.length cs), (5, .slice A_1 s.length c_2), (6, .slice A_1 s.length c_2), (7, .int .i64 (s.length : Int)), (8, .int .i64 x.1)])) (fun (x : Int × Im × (List Value)) => ImLe S x.2.1 ∧ 0 ≤ x.1 ∧ x.1 ≤ s.length ∧ RowOk (kSl kGFilter) x.2.1 A_1 c_2 x.2.2 s ∧ RdL (kSl (kAnyN 5)) (x.2.1.minus S) (x.2.2.take ((x.1).toNat * 1)) ((s.map shp).take (x.1).toNat)) (fun (x : Int × Im × (List Value)) => (s.length - x.1).toNat) ((0, S, cells_4)) ⟨(ImLe.refl _), ⟨by omega, by omega, h_5, by simp [RdL]⟩⟩ rfl ⟨rfl, trivial⟩ ⟨rfl, rfl, rfl, rfl, rfl, rfl, rfl, trivial⟩ ?_
  rintro ⟨i, T1, e⟩ ⟨hle_11, ⟨q0, q1, q2, q3⟩⟩
  dsimp only at *
  refine C_seq ?_
  refine C_region rfl ?_
  refine T_pv rfl (pv_lss rfl rfl) ?_
  refine T_nil ?_
  refine N_then ?_
  refine C_seq ?_
  refine C_cond rfl (fun hb_12 => ?_) (fun hb_12 => ?_)
  · -- decide (i < (s.length : Int)) = true
    have hx_13 := of_decide_eq_true hb_12
    refine C_skip ?_
    refine N_then ?_
    refine C_seq ?_
    refine C_block ?_
    refine C_seq ?_
    refine C_region rfl ?_
    refine T_pv rfl (pv_move rfl) ?_
    refine T_pv rfl (pv_assign rfl) ?_
    refine T_nil ?_
    refine N_then ?_
    refine C_region rfl ?_
    refine T_pv rfl (pv_move rfl) ?_
    refine T_pv rfl (pv_move rfl) ?_
    refine T_pv rfl (pv_move rfl) ?_
    refine T_pv rfl (pv_move rfl) ?_
    obtain ⟨us_14, hk_15, hcut_17, he_16⟩ := RowOk.elt q2 (i := i) (by omega) (by omega)
    clear hcut_17
    obtain ⟨A_18, c_19, rfl, h_20⟩ := hk_15
    have hb_21 := h_20.bd
    refine T_pv rfl (pv_idxrow q2 rfl rfl el35 sz51 (by omega) (by omega)) ?_
    refine T_pv rfl (pv_load rfl ag51 ((he_16 _ _ 101 _ _ rfl).zero rfl)) ?_
    have zz : _ ≤ 2000 := (p1.at_ (i := i) (by omega) (by omega)).1
    refine T_cons (op_call (fun _ h => by cases h; exact lt_of rfl) rfl rfl rfl en46 (f_CloneF _ _ _ (s.getD (i).toNat default) h_20 (by omega)) [102] trivial (by simp) (by decide) ?_)
    rintro v_29 S_27 L_30 ⟨A_22, c_23, r_24, cells_25, rfl, rfl, rfl, rfl, h_26⟩ hle_28
    have hb_31 := h_26.bd
    refine ⟨rfl, ?_⟩
    refine T_pv rfl (pv_idxrow q2 rfl rfl el35 sz51 (by omega) (by omega)) ?_
    refine T_freezeRow 102 rfl (fun S_32 hle_33 hz_34 => ?_)
    have hf_35 : RdA kGFilter S_32 A_22 c_23 (s.getD (i).toNat default) := (RowOk.frozen0 h_26 hle_33 hz_34)
    have hsh_36 : RdA (kAnyN 5) (S_32.minus S) A_22 c_23 (shp (s.getD (i).toNat default)) := hz_34 _ hle_11 _ _ (shp_length _) h_26.len (RdL.shape rfl h_26.rd)
    have hro_38 : RowOk (kSl kGFilter) S_32 A_1 c_2 (putc e ((i).toNat * 1) [.slice A_22 ((s.getD (i).toNat default).length) c_23]) (s.set (i).toNat (s.getD (i).toNat default)) := RowOk.put (q2.mono hle_33) ⟨_, _, rfl, hf_35⟩ (by omega) (by omega)
    have hfit_39 : (i).toNat * 1 + 1 ≤ (e).length := by rw [q2.len]; show _ ≤ _ * 1; omega
    refine T_cons (op_storeR (vs := [.slice A_22 ((s.getD (i).toNat default).length) c_23]) 101 q2.pl rfl rfl rfl sz51 (by simp [Value.oneCell']) rfl (by omega) hfit_39 ?_)
    refine T_nil ?_
    refine N_block ?_
    refine N_then ?_
    refine C_region rfl ?_
    have hr_40 : InR .i64 (i + 1) := inR_i64 (by omega) (by omega)
    refine T_pv rfl (pv_add rfl rfl hr_40) ?_
    refine T_pv rfl (pv_move rfl) ?_
    refine T_nil ?_
    refine N_next ((i + 1, S_32, putc e ((i).toNat * 1) [.slice A_22 ((s.getD (i).toNat default).length) c_23])) ⟨(ImLe.trans hle_11 hle_33), ⟨by omega, by omega, RowOk.putsame hro_38 (by omega) (by omega), RdL.pre (d := (kSl (kAnyN 5))) (RdL.mono (Im.minus_mono hle_33) q3) (by rw [q2.len, List.length_map]; rfl) ⟨_, _, by rw [map_shp (by omega) (by omega), shp_length], by rw [map_shp (by omega) (by omega)]; exact hsh_36⟩ (by omega) (by rw [List.length_map]; omega)⟩⟩ (by first | omega | (dsimp only; omega)) rfl ⟨rfl, trivial⟩ ⟨rfl, rfl, rfl, rfl, rfl, rfl, rfl, trivial⟩
  · -- decide (i < (s.length : Int)) = false
    have hx_41 := of_decide_eq_false hb_12
    refine C_exit ?_
    refine X_then ?_
    refine X_loop ?_
    refine X_block ?_
    refine N_then ?_
    refine C_seq ?_
    refine C_region rfl ?_
    refine T_pv rfl (pv_move rfl) ?_
    refine T_pv rfl (pv_assign rfl) ?_
    refine T_nil ?_
    refine N_then ?_
    refine C_ret0 ?_
    -- ret 0: .slice A_1 s.length c_2
    refine Q_ret (vs := [.slice A_1 s.length c_2]) ⟨rfl, trivial⟩ (L' := [.row (.slice A_1 s.length c_2) 51 1 s.length e]) [101] ⟨rfl, trivial⟩ (by simp) (by decide) (⟨A_1, c_2, s, e, rfl, rfl, ?_, q2, ?_⟩)
    · rfl
    · have := RdL.whole (d := kSl (kAnyN 5)) (n := s.length) q3 (by rw [q2.len]; rfl) (by simp) (by omega) (by omega)
      exact this

end Go.Proofs.Ythamgiecgilmdaa
