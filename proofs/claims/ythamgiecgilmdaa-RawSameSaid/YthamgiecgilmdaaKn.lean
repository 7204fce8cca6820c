/- The program's structures, as data, printed by wip/tool/walk2.py. -/
import Derived.Test.YthamgiecgilmdaaRbE
namespace Go.Proofs.Ythamgiecgilmdaa
open Go Go.RowKit

structure GInfo where
  seq : Int
  shape : Int
  max : Int
  groups : (List Int)
deriving DecidableEq, Inhabited
def kGInfo : Kd GInfo where
  sz := 4
  K := fun S cs x => ∃ A3 c3, cs = [.int .u8 x.seq, .int .u8 x.shape, .int .i64 x.max, .slice A3 x.groups.length c3] ∧ InR .u8 x.seq ∧ InR .u8 x.shape ∧ InR .i64 x.max ∧ RdA (kInt .i64) S A3 c3 x.groups
  len := fun h => by obtain ⟨A3, c3, rfl, h0, h1, h2, h3⟩ := h; rfl
  mono := fun hle h => by obtain ⟨A3, c3, rfl, h0, h1, h2, h3⟩ := h; exact ⟨A3, c3, rfl, h0, h1, h2, h3.mono hle⟩
  one := fun h u hu => by
    obtain ⟨A3, c3, rfl, h0, h1, h2, h3⟩ := h
    simp only [List.mem_cons, List.not_mem_nil, or_false] at hu
    rcases hu with rfl | rfl | rfl | rfl <;> rfl
theorem GInfo.eq_iff {a b : GInfo} : a = b ↔ a.seq = b.seq ∧ a.shape = b.shape ∧ a.max = b.max ∧ a.groups = b.groups := by cases a; cases b; simp
structure GSection where
  book : Int
  len : Int
deriving DecidableEq, Inhabited
def kGSection : Kd GSection where
  sz := 2
  K := fun S cs x => cs = [.int .i64 x.book, .int .i64 x.len] ∧ InR .i64 x.book ∧ InR .i64 x.len
  len := fun h => by obtain ⟨rfl, h0, h1⟩ := h; rfl
  mono := fun hle h => by obtain ⟨rfl, h0, h1⟩ := h; exact ⟨rfl, h0, h1⟩
  one := fun h u hu => by
    obtain ⟨rfl, h0, h1⟩ := h
    simp only [List.mem_cons, List.not_mem_nil, or_false] at hu
    rcases hu with rfl | rfl <;> rfl
theorem GSection.eq_iff {a b : GSection} : a = b ↔ a.book = b.book ∧ a.len = b.len := by cases a; cases b; simp
structure GFilter where
  len : Int
  order : Int
  down : Bool
  fine : Bool
  coefs : (List Int)
deriving DecidableEq, Inhabited
def kGFilter : Kd GFilter where
  sz := 5
  K := fun S cs x => ∃ A4 c4, cs = [.int .i64 x.len, .int .i64 x.order, .bool x.down, .bool x.fine, .slice A4 x.coefs.length c4] ∧ InR .i64 x.len ∧ InR .i64 x.order ∧ RdA (kInt .i64) S A4 c4 x.coefs
  len := fun h => by obtain ⟨A4, c4, rfl, h0, h1, h4⟩ := h; rfl
  mono := fun hle h => by obtain ⟨A4, c4, rfl, h0, h1, h4⟩ := h; exact ⟨A4, c4, rfl, h0, h1, h4.mono hle⟩
  one := fun h u hu => by
    obtain ⟨A4, c4, rfl, h0, h1, h4⟩ := h
    simp only [List.mem_cons, List.not_mem_nil, or_false] at hu
    rcases hu with rfl | rfl | rfl | rfl | rfl <;> rfl
theorem GFilter.eq_iff {a b : GFilter} : a = b ↔ a.len = b.len ∧ a.order = b.order ∧ a.down = b.down ∧ a.fine = b.fine ∧ a.coefs = b.coefs := by cases a; cases b; simp
structure GChan where
  gain : Int
  info : GInfo
  sections : (List (List GSection))
  steps : (List (List Int))
  tns : (List (List GFilter))
  lines : (List Int)
deriving DecidableEq, Inhabited
def kGChan : Kd GChan where
  sz := 9
  K := fun S cs x => ∃ A4 c4 A5 c5 A6 c6 A7 c7 A8 c8, cs = [.int .i64 x.gain, .int .u8 x.info.seq, .int .u8 x.info.shape, .int .i64 x.info.max, .slice A4 x.info.groups.length c4, .slice A5 x.sections.length c5, .slice A6 x.steps.length c6, .slice A7 x.tns.length c7, .slice A8 x.lines.length c8] ∧ InR .i64 x.gain ∧ InR .u8 x.info.seq ∧ InR .u8 x.info.shape ∧ InR .i64 x.info.max ∧ RdA (kInt .i64) S A4 c4 x.info.groups ∧ RdA (kSl kGSection) S A5 c5 x.sections ∧ RdA (kSl (kInt .i64)) S A6 c6 x.steps ∧ RdA (kSl kGFilter) S A7 c7 x.tns ∧ RdA (kInt .i64) S A8 c8 x.lines
  len := fun h => by obtain ⟨A4, c4, A5, c5, A6, c6, A7, c7, A8, c8, rfl, h0, h1, h2, h3, h4, h5, h6, h7, h8⟩ := h; rfl
  mono := fun hle h => by obtain ⟨A4, c4, A5, c5, A6, c6, A7, c7, A8, c8, rfl, h0, h1, h2, h3, h4, h5, h6, h7, h8⟩ := h; exact ⟨A4, c4, A5, c5, A6, c6, A7, c7, A8, c8, rfl, h0, h1, h2, h3, h4.mono hle, h5.mono hle, h6.mono hle, h7.mono hle, h8.mono hle⟩
  one := fun h u hu => by
    obtain ⟨A4, c4, A5, c5, A6, c6, A7, c7, A8, c8, rfl, h0, h1, h2, h3, h4, h5, h6, h7, h8⟩ := h
    simp only [List.mem_cons, List.not_mem_nil, or_false] at hu
    rcases hu with rfl | rfl | rfl | rfl | rfl | rfl | rfl | rfl | rfl <;> rfl
theorem GChan.eq_iff {a b : GChan} : a = b ↔ a.gain = b.gain ∧ a.info = b.info ∧ a.sections = b.sections ∧ a.steps = b.steps ∧ a.tns = b.tns ∧ a.lines = b.lines := by cases a; cases b; simp
structure GFrame where
  chans : (List GChan)
  common : Bool
  mask : Int
  bands : (List (List Bool))
  fill : (List Int)
deriving DecidableEq, Inhabited
def kGFrame : Kd GFrame where
  sz := 5
  K := fun S cs x => ∃ A0 c0 A3 c3 A4 c4, cs = [.slice A0 x.chans.length c0, .bool x.common, .int .i64 x.mask, .slice A3 x.bands.length c3, .slice A4 x.fill.length c4] ∧ RdA kGChan S A0 c0 x.chans ∧ InR .i64 x.mask ∧ RdA (kSl kBool) S A3 c3 x.bands ∧ RdA (kInt .u8) S A4 c4 x.fill
  len := fun h => by obtain ⟨A0, c0, A3, c3, A4, c4, rfl, h0, h2, h3, h4⟩ := h; rfl
  mono := fun hle h => by obtain ⟨A0, c0, A3, c3, A4, c4, rfl, h0, h2, h3, h4⟩ := h; exact ⟨A0, c0, A3, c3, A4, c4, rfl, h0.mono hle, h2, h3.mono hle, h4.mono hle⟩
  one := fun h u hu => by
    obtain ⟨A0, c0, A3, c3, A4, c4, rfl, h0, h2, h3, h4⟩ := h
    simp only [List.mem_cons, List.not_mem_nil, or_false] at hu
    rcases hu with rfl | rfl | rfl | rfl | rfl <;> rfl
theorem GFrame.eq_iff {a b : GFrame} : a = b ↔ a.chans = b.chans ∧ a.common = b.common ∧ a.mask = b.mask ∧ a.bands = b.bands ∧ a.fill = b.fill := by cases a; cases b; simp

end Go.Proofs.Ythamgiecgilmdaa
