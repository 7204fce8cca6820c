/- The structures as they come in, printed by wip/tool/walk2.py. -/
import Derived.Test.YthamgiecgilmdaaTy
import Derived.Test.YthamgiecgilmdaaRbO
namespace Go.Proofs.Ythamgiecgilmdaa
open Go Go.RowKit

theorem opn_GInfo : Opn Try.prog kGInfo 32 := by
  intro H enc w base spare held fuel cs x h
  have hl := opn_len h fl_32_0 sz32
  obtain ⟨y0, k0⟩ := opn_fld h fl_32_0 (opn_int un5)
  obtain ⟨y1, k1⟩ := opn_fld h fl_32_1 (opn_int un5)
  obtain ⟨y2, k2⟩ := opn_fld h fl_32_2 (opn_int un3)
  obtain ⟨y3, k3⟩ := opn_fld h fl_32_3 (opn_slice (tElem_und el30) (by kernel_rfl) (by decide) (opn_int un3))
  match cs, hl with
  | [a0, a1, a2, a3], _ =>
    obtain ⟨e0, h0_0⟩ := k0
    have e0 : [a0] = [.int .u8 y0] := e0
    simp only [List.cons.injEq, and_true] at e0
    obtain rfl := e0
    obtain ⟨e1, h1_0⟩ := k1
    have e1 : [a1] = [.int .u8 y1] := e1
    simp only [List.cons.injEq, and_true] at e1
    obtain rfl := e1
    obtain ⟨e2, h2_0⟩ := k2
    have e2 : [a2] = [.int .i64 y2] := e2
    simp only [List.cons.injEq, and_true] at e2
    obtain rfl := e2
    obtain ⟨A3_0, c3_0, e3, h3_0⟩ := k3
    have e3 : [a3] = [.slice A3_0 y3.length c3_0] := e3
    simp only [List.cons.injEq, and_true] at e3
    obtain rfl := e3
    exact ⟨⟨y0, y1, y2, y3⟩, A3_0, c3_0, rfl, h0_0, h1_0, h2_0, h3_0⟩

theorem opn_GSection : Opn Try.prog kGSection 57 := by
  intro H enc w base spare held fuel cs x h
  have hl := opn_len h fl_57_0 sz57
  obtain ⟨y0, k0⟩ := opn_fld h fl_57_0 (opn_int un3)
  obtain ⟨y1, k1⟩ := opn_fld h fl_57_1 (opn_int un3)
  match cs, hl with
  | [a0, a1], _ =>
    obtain ⟨e0, h0_0⟩ := k0
    have e0 : [a0] = [.int .i64 y0] := e0
    simp only [List.cons.injEq, and_true] at e0
    obtain rfl := e0
    obtain ⟨e1, h1_0⟩ := k1
    have e1 : [a1] = [.int .i64 y1] := e1
    simp only [List.cons.injEq, and_true] at e1
    obtain rfl := e1
    exact ⟨⟨y0, y1⟩, rfl, h0_0, h1_0⟩

theorem opn_GFilter : Opn Try.prog kGFilter 53 := by
  intro H enc w base spare held fuel cs x h
  have hl := opn_len h fl_53_0 sz53
  obtain ⟨y0, k0⟩ := opn_fld h fl_53_0 (opn_int un3)
  obtain ⟨y1, k1⟩ := opn_fld h fl_53_1 (opn_int un3)
  obtain ⟨y2, k2⟩ := opn_fld h fl_53_2 (opn_bool un4)
  obtain ⟨y3, k3⟩ := opn_fld h fl_53_3 (opn_bool un4)
  obtain ⟨y4, k4⟩ := opn_fld h fl_53_4 (opn_slice (tElem_und el30) (by kernel_rfl) (by decide) (opn_int un3))
  match cs, hl with
  | [a0, a1, a2, a3, a4], _ =>
    obtain ⟨e0, h0_0⟩ := k0
    have e0 : [a0] = [.int .i64 y0] := e0
    simp only [List.cons.injEq, and_true] at e0
    obtain rfl := e0
    obtain ⟨e1, h1_0⟩ := k1
    have e1 : [a1] = [.int .i64 y1] := e1
    simp only [List.cons.injEq, and_true] at e1
    obtain rfl := e1
    have e2 := k2
    have e2 : [a2] = [.bool y2] := e2
    simp only [List.cons.injEq, and_true] at e2
    obtain rfl := e2
    have e3 := k3
    have e3 : [a3] = [.bool y3] := e3
    simp only [List.cons.injEq, and_true] at e3
    obtain rfl := e3
    obtain ⟨A4_0, c4_0, e4, h4_0⟩ := k4
    have e4 : [a4] = [.slice A4_0 y4.length c4_0] := e4
    simp only [List.cons.injEq, and_true] at e4
    obtain rfl := e4
    exact ⟨⟨y0, y1, y2, y3, y4⟩, A4_0, c4_0, rfl, h0_0, h1_0, h4_0⟩

theorem opn_GChan : Opn Try.prog kGChan 37 := by
  intro H enc w base spare held fuel cs x h
  have hl := opn_len h fl_37_0 sz37
  obtain ⟨y0, k0⟩ := opn_fld h fl_37_0 (opn_int un3)
  obtain ⟨y1, k1⟩ := opn_fld h fl_37_1 opn_GInfo
  obtain ⟨y2, k2⟩ := opn_fld h fl_37_2 (opn_slice (tElem_und el33) (by kernel_rfl) (by decide) (opn_slice (tElem_und el50) (by kernel_rfl) (by decide) opn_GSection))
  obtain ⟨y3, k3⟩ := opn_fld h fl_37_3 (opn_slice (tElem_und el34) (by kernel_rfl) (by decide) (opn_slice (tElem_und el30) (by kernel_rfl) (by decide) (opn_int un3)))
  obtain ⟨y4, k4⟩ := opn_fld h fl_37_4 (opn_slice (tElem_und el35) (by kernel_rfl) (by decide) (opn_slice (tElem_und el51) (by kernel_rfl) (by decide) opn_GFilter))
  obtain ⟨y5, k5⟩ := opn_fld h fl_37_5 (opn_slice (tElem_und el30) (by kernel_rfl) (by decide) (opn_int un3))
  match cs, hl with
  | [a0, a1, a2, a3, a4, a5, a6, a7, a8], _ =>
    obtain ⟨e0, h0_0⟩ := k0
    have e0 : [a0] = [.int .i64 y0] := e0
    simp only [List.cons.injEq, and_true] at e0
    obtain rfl := e0
    obtain ⟨A1_3, c1_3, e1, h1_0, h1_1, h1_2, h1_3⟩ := k1
    have e1 : [a1, a2, a3, a4] = [.int .u8 y1.seq, .int .u8 y1.shape, .int .i64 y1.max, .slice A1_3 y1.groups.length c1_3] := e1
    simp only [List.cons.injEq, and_true] at e1
    obtain ⟨rfl, rfl, rfl, rfl⟩ := e1
    obtain ⟨A2_0, c2_0, e2, h2_0⟩ := k2
    have e2 : [a5] = [.slice A2_0 y2.length c2_0] := e2
    simp only [List.cons.injEq, and_true] at e2
    obtain rfl := e2
    obtain ⟨A3_0, c3_0, e3, h3_0⟩ := k3
    have e3 : [a6] = [.slice A3_0 y3.length c3_0] := e3
    simp only [List.cons.injEq, and_true] at e3
    obtain rfl := e3
    obtain ⟨A4_0, c4_0, e4, h4_0⟩ := k4
    have e4 : [a7] = [.slice A4_0 y4.length c4_0] := e4
    simp only [List.cons.injEq, and_true] at e4
    obtain rfl := e4
    obtain ⟨A5_0, c5_0, e5, h5_0⟩ := k5
    have e5 : [a8] = [.slice A5_0 y5.length c5_0] := e5
    simp only [List.cons.injEq, and_true] at e5
    obtain rfl := e5
    exact ⟨⟨y0, y1, y2, y3, y4, y5⟩, A1_3, c1_3, A2_0, c2_0, A3_0, c3_0, A4_0, c4_0, A5_0, c5_0, rfl, h0_0, h1_0, h1_1, h1_2, h1_3, h2_0, h3_0, h4_0, h5_0⟩

theorem opn_GFrame : Opn Try.prog kGFrame 26 := by
  intro H enc w base spare held fuel cs x h
  have hl := opn_len h fl_26_0 sz26
  obtain ⟨y0, k0⟩ := opn_fld h fl_26_0 (opn_slice (tElem_und el22) (by kernel_rfl) (by decide) opn_GChan)
  obtain ⟨y1, k1⟩ := opn_fld h fl_26_1 (opn_bool un4)
  obtain ⟨y2, k2⟩ := opn_fld h fl_26_2 (opn_int un3)
  obtain ⟨y3, k3⟩ := opn_fld h fl_26_3 (opn_slice (tElem_und el23) (by kernel_rfl) (by decide) (opn_slice (tElem_und el38) (by kernel_rfl) (by decide) (opn_bool un4)))
  obtain ⟨y4, k4⟩ := opn_fld h fl_26_4 (opn_slice (tElem_und el24) (by kernel_rfl) (by decide) (opn_int un5))
  match cs, hl with
  | [a0, a1, a2, a3, a4], _ =>
    obtain ⟨A0_0, c0_0, e0, h0_0⟩ := k0
    have e0 : [a0] = [.slice A0_0 y0.length c0_0] := e0
    simp only [List.cons.injEq, and_true] at e0
    obtain rfl := e0
    have e1 := k1
    have e1 : [a1] = [.bool y1] := e1
    simp only [List.cons.injEq, and_true] at e1
    obtain rfl := e1
    obtain ⟨e2, h2_0⟩ := k2
    have e2 : [a2] = [.int .i64 y2] := e2
    simp only [List.cons.injEq, and_true] at e2
    obtain rfl := e2
    obtain ⟨A3_0, c3_0, e3, h3_0⟩ := k3
    have e3 : [a3] = [.slice A3_0 y3.length c3_0] := e3
    simp only [List.cons.injEq, and_true] at e3
    obtain rfl := e3
    obtain ⟨A4_0, c4_0, e4, h4_0⟩ := k4
    have e4 : [a4] = [.slice A4_0 y4.length c4_0] := e4
    simp only [List.cons.injEq, and_true] at e4
    obtain rfl := e4
    exact ⟨⟨y0, y1, y2, y3, y4⟩, A0_0, c0_0, A3_0, c3_0, A4_0, c4_0, rfl, h0_0, h2_0, h3_0, h4_0⟩

end Go.Proofs.Ythamgiecgilmdaa
