/- A twin of which numbers and truths are turned: what is else read stays. -/
import Derived.Test.YthamgiecgilmdaaRbQ
namespace Go.Proofs.Ythamgiecgilmdaa
open Go Go.RowKit

/-- What U holds of the blocks that S1 has and S has not. -/
def Im.cut (U S1 S : Im) : Im := fun b => match S b, S1 b with | none, some _ => U b | _, _ => none
theorem Im.cut_of {U S1 S : Im} {b : Nat} {o : Obj} (h : U.cut S1 S b = some o) : U b = some o ∧ S b = none ∧ ∃ o', S1 b = some o' := by
  unfold Im.cut at h
  cases hS : S b with
  | some q => rw [hS] at h; cases h
  | none =>
    cases h1 : S1 b with
    | none => rw [hS, h1] at h; cases h
    | some q => rw [hS, h1] at h; exact ⟨h, rfl, q, rfl⟩
theorem Im.cut_eq {U S1 S : Im} {b : Nat} {o' : Obj} (h0 : S b = none) (h1 : S1 b = some o') : U.cut S1 S b = U b := by
  unfold Im.cut; rw [h0, h1]
theorem Im.minus_cut {S S1 S2 : Im} (h : ImLe S1 S2) : ImLe (S1.minus S) (S2.cut S1 S) := fun b o hb => by
  have h0 := Im.minus_apart hb
  have h1 := Im.minus_le _ _ hb
  rw [Im.cut_eq h0 h1]; exact h _ _ h1
theorem Im.cut_le {U S1 S : Im} : ImLe (U.cut S1 S) U := fun b o hb => (Im.cut_of hb).1
theorem Chg.cut {R : Value → Value → Prop} {U U' S1 S : Im} (h : Chg R U U') : Chg R (U.cut S1 S) (U'.cut S1 S) := fun b o hb => by
  obtain ⟨h1, h2, o', h3⟩ := Im.cut_of hb
  rw [Im.cut_eq h2 h3]
  exact h b o h1

structure TwI (S S1 S2 U : Im) (A0 A3 A4 : Option Addr) (c0 c3 c4 : Nat) (f : GFrame) : Prop where
  a : ImLe S U
  b : ImLe (S2.minus S1) U
  ch : RdA kChanT (U.cut S1 S) A0 c0 (f.chans.map tl)
  bd : RdA (kSl kAnyB) (U.cut S1 S) A3 c3 (f.bands.map shp)
  fl : RdA (kAnyI .u8) (U.cut S1 S) A4 c4 (shp f.fill)

section
variable {S S1 S2 U : Im} {A0 A3 A4 : Option Addr} {c0 c3 c4 : Nat} {f : GFrame}
theorem TwI.put (h : TwI S S1 S2 U A0 A3 A4 c0 c3 c4 f) {g off : Nat} {cs : Array Value} {T : TypeId} {fr : Nat × Nat} {u v : Value} (hg : (U.cut S1 S) g = some (.cells cs T fr)) (hu : cs[off]? = some u) (hR : ShR u v) :
    TwI S S1 S2 (U.put g (.cells (cs.setIfInBounds off v) T fr)) A0 A3 A4 c0 c3 c4 f := by
  obtain ⟨h1, h2, o', h3⟩ := Im.cut_of hg
  have hch : Chg ShR U (U.put g (.cells (cs.setIfInBounds off v) T fr)) := Chg.put ShR.refl h1 hu hR
  have hc := hch.cut (S1 := S1) (S := S)
  refine ⟨le_put h.a h2, le_put h.b (by unfold Im.minus; rw [h3]), (keeps_chanT hc).rda ShR.refl hc h.ch, (keeps_sl ShR.refl (keeps_anyB _ _) hc (fun A n c u' hu => hu.slice)).rda ShR.refl hc h.bd, (keeps_anyI _ _ _).rda ShR.refl hc h.fl⟩

/-- A store into an element of what the twin shows: at cell j of element i. -/
theorem TwI.at_ {α : Type} [Inhabited α] {d : Kd α} {A : Option Addr} {c : Nat} {xs : List α} (h : TwI S S1 S2 U A0 A3 A4 c0 c3 c4 f) (hr : RdA d (U.cut S1 S) A c xs) {i : Int} (h0 : 0 ≤ i) (h1 : i < xs.length) (j : Nat) {v : Value}
    (hv : ∀ us x, d.K (U.cut S1 S) us x → ∃ u, us[j]? = some u ∧ ShR u v) :
    ∃ g cs T fr o, (adr A (i.toNat * d.sz)).add j = ⟨g, o, none⟩ ∧ U g = some (.cells cs T fr) ∧ S g = none ∧ o < cs.size ∧ TwI S S1 S2 (U.put g (.cells (cs.setIfInBounds o v) T fr)) A0 A3 A4 c0 c3 c4 f := by
  obtain ⟨g, off, cs, T, fr, us, rfl, hg, hk, hcell⟩ := hr.cellAt h0 h1
  obtain ⟨u, hu, hR⟩ := hv _ _ hk
  obtain ⟨a1, a2, _⟩ := Im.cut_of hg
  have h4 := hcell j u hu
  exact ⟨g, cs, T, fr, off + i.toNat * d.sz + j, by simp [adr, addp], a1, a2, (Array.getElem?_eq_some_iff.1 h4).1, h.put hg h4 hR⟩
end

theorem list7 {us : List Value} (h : us.length = 7) : ∃ a1 a2 a3 a4 a5 a6 a7, us = [a1, a2, a3, a4, a5, a6, a7] := by
  match us, h with
  | [a1, a2, a3, a4, a5, a6, a7], _ => exact ⟨a1, a2, a3, a4, a5, a6, a7, rfl⟩

theorem pv_idxn {P : Program} {E : Env} {S : Im} {L : List (Nat × HA)} {l : List (Nat × Value)} {dd : Option Nat} {ty : TypeId} {pos : String} {af : Array Edge} {gd : Option (Nat × Bool)} {α : Type} {d : Kd α} {A : Option Addr} {c sz n : Nat} {xs : List α} {Sr : Im} (hr : RdA d Sr A c xs) (hn : xs.length = n)
    {t e : TypeId} {x y : Operand} {ik : IntKind} {i : Int} (hx : ev l x = some (.slice A n c)) (hy : ev l y = some (.int ik i)) (ht : tElem P t = some e) (hs : tSz P e = some sz)
    (h0 : 0 ≤ i) (h1 : i < xs.length) : PV P E S L l ⟨dd, .indexAddr t x y, ty, pos, af, gd⟩ (.pointer (some (adr A (i.toNat * sz)))) := by
  subst hn; exact pv_idx hr hx hy ht hs h0 h1

/-- A store at an address that is told otherwise. -/
theorem op_storeAt {P : Program} {E : Env} {S : Im} {L : List (Nat × HA)} {l : List (Nat × Value)} {K : Im → List (Nat × HA) → List (Nat × Value) → Prop} {ty : TypeId} {pos : String} {af : Array Edge} {gd : Option (Nat × Bool)}
    {t : TypeId} {x y : Operand} {ad : Addr} {g o : Nat} {v : Value} {cs : Array Value} {T : TypeId} {fr : Nat × Nat} (hx : ev l x = some (.pointer (some ad))) (had : ad = ⟨g, o, none⟩) (hy : ev l y = some v) (hv : v.cells = [v].toArray) (hs : tSz P t = some 1) (h1 : v.oneCell' = true)
    (hS : S g = some (.cells cs T fr)) (h0 : E.S0 g = none) (hfit : o < cs.size) (k : K (S.put g (.cells (cs.setIfInBounds o v) T fr)) L l) : Op1 P E S L l ⟨none, .store t x y, ty, pos, af, gd⟩ K := by
  subst had
  exact op_storeIm hx rfl hy hv hs h1 hS h0 hfit k
theorem add_zero {ad : Addr} : ad.add 0 = ad := by unfold Addr.add; rfl
end Go.Proofs.Ythamgiecgilmdaa
