/- Records that are not great. -/
import Derived.Test.YthamgiecgilmdaaKn
namespace Go.Proofs.Ythamgiecgilmdaa
open Go Go.RowKit

def AllI {α : Type} [Inhabited α] (P : α → Prop) (xs : List α) (n : Int) : Prop := ∀ k : Int, 0 ≤ k → k < n → P (xs.getD k.toNat default)
def AllL {α : Type} [Inhabited α] (P : α → Prop) (xs : List α) : Prop := AllI P xs xs.length
theorem AllI.zero {α : Type} [Inhabited α] {P : α → Prop} {xs : List α} : AllI P xs 0 := fun k h0 h1 => by omega
theorem AllI.next {α : Type} [Inhabited α] {P : α → Prop} {xs : List α} {i : Int} (h : AllI P xs i) (hp : P (xs.getD i.toNat default)) : AllI P xs (i + 1) := fun k h0 h1 => by
  by_cases e : k = i
  · subst e; exact hp
  · exact h k h0 (by omega)
theorem AllI.all {α : Type} [Inhabited α] {P : α → Prop} {xs : List α} {i : Int} (h : AllI P xs i) (hi : (xs.length : Int) ≤ i) : AllL P xs := fun k h0 h1 => h k h0 (by omega)
theorem AllL.at_ {α : Type} [Inhabited α] {P : α → Prop} {xs : List α} (h : AllL P xs) {i : Int} (h0 : 0 ≤ i) (h1 : i < xs.length) : P (xs.getD i.toNat default) := h i h0 h1

def lenL {α : Type} (xs : List α) : Prop := xs.length ≤ 2000
structure GChan.small (c : GChan) : Prop where
  groups : c.info.groups.length ≤ 2000
  sections : c.sections.length ≤ 2000
  section1 : AllL lenL c.sections
  steps : c.steps.length ≤ 2000
  step1 : AllL lenL c.steps
  tns : c.tns.length ≤ 2000
  tns1 : AllL (fun t : List GFilter => t.length ≤ 2000 ∧ AllL (fun f : GFilter => f.coefs.length ≤ 2000) t) c.tns
  lines : c.lines.length ≤ 2000
structure GFrame.small (f : GFrame) : Prop where
  chans : f.chans.length ≤ 2000
  chan1 : AllL GChan.small f.chans
  bands : f.bands.length ≤ 2000
  band1 : AllL lenL f.bands
  fill : f.fill.length ≤ 2000
end Go.Proofs.Ythamgiecgilmdaa
