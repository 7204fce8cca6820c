/- Filters whose numbers are laid anew. -/
import Derived.Test.YthamgiecgilmdaaKn
import Derived.Test.YthamgiecgilmdaaRbP
namespace Go.Proofs.Ythamgiecgilmdaa
open Go Go.RowKit

theorem chl_cons {R : Value → Value → Prop} {u : Value} {us us' : List Value} (h : ChL R (u :: us) us') : ∃ u' us1, us' = u' :: us1 ∧ R u u' ∧ ChL R us us1 := by
  obtain ⟨hl, hr⟩ := h
  match us', hl with
  | [], hl => simp at hl
  | a :: ar, hl =>
    obtain ⟨u', h1, h2⟩ := hr 0 u rfl
    simp at h1; subst h1
    exact ⟨a, ar, rfl, h2, by simpa using hl, fun j v hj => by simpa using hr (j + 1) v (by simpa using hj)⟩
theorem chl_nil {R : Value → Value → Prop} {us' : List Value} (h : ChL R [] us') : us' = [] := List.eq_nil_of_length_eq_zero (by simpa using h.1)

theorem keeps_filter {S S' : Im} (hS : Chg (CoR S S') S S') : Keeps (CoR S S') S S' kGFilter := by
  intro us us' x hc h
  obtain ⟨A, c, rfl, h1, h2, h3⟩ := h
  obtain ⟨u0, r0, rfl, e0, hc⟩ := chl_cons hc
  obtain ⟨u1, r1, rfl, e1, hc⟩ := chl_cons hc
  obtain ⟨u2, r2, rfl, e2, hc⟩ := chl_cons hc
  obtain ⟨u3, r3, rfl, e3, hc⟩ := chl_cons hc
  obtain ⟨u4, r4, rfl, e4, hc⟩ := chl_cons hc
  have := chl_nil hc
  subst this
  obtain ⟨A', c', rfl, h4⟩ := CoR.slice hS e4 h3
  rw [e0.int, e1.int, e2.bool, e3.bool]
  exact ⟨A', c', rfl, h1, h2, h4⟩

/-- What the store of new numbers leaves: T1 the memory ahead of the clone, T2 behind it, T3 behind the store. -/
theorem coef_put {S3 T1 T2 : Im} {A : Option Addr} {c : Nat} {fs : List GFilter} (hrd : RdA kGFilter T1 A c fs) (hsh : RdA (kAnyN 5) (T1.minus S3) A c (shp fs)) (h12 : ImLe T1 T2) (h31 : ImLe S3 T1) {k : Int} (h0 : 0 ≤ k) (h1 : k < fs.length) {A' : Option Addr} {c' : Nat}
    (hn : RdA (kInt .i64) (T2.minus T1) A' c' (fs.getD k.toNat default).coefs) :
    ∃ g cs T fr, (adr A (k.toNat * 5)).add 4 = ⟨g, ((adr A (k.toNat * 5)).add 4).off, none⟩ ∧ T2 g = some (.cells cs T fr) ∧ S3 g = none ∧ ((adr A (k.toNat * 5)).add 4).off < cs.size ∧
      ∀ T3, T3 = T2.put g (.cells (cs.setIfInBounds ((adr A (k.toNat * 5)).add 4).off (.slice A' (fs.getD k.toNat default).coefs.length c')) T fr) →
        ImLe S3 T3 ∧ Chg (CoR T2 T3) T2 T3 ∧
        (∀ B e (gs : List GFilter), RdA kGFilter T2 B e gs → RdA kGFilter T3 B e gs) ∧ (∀ B e (us : List Unit), RdA (kAnyN 5) (T2.minus S3) B e us → RdA (kAnyN 5) (T3.minus S3) B e us) := by
  obtain ⟨g, off, cs, T, fr, us, rfl, hg, hk, hcell⟩ := hrd.cellAt h0 h1
  have hS3 : S3 g = none := by
    obtain ⟨g', off', cs', T', fr', us', hA, hg', _, _⟩ := hsh.cellAt h0 (by rw [shp_length]; exact h1)
    cases hA
    exact Im.minus_apart hg'
  obtain ⟨A0, c0, rfl, e1, e2, e3⟩ := hk
  have hoff : ((adr (some ⟨g, off, none⟩) (k.toNat * 5)).add 4) = ⟨g, off + k.toNat * 5 + 4, none⟩ := by simp [adr, addp]
  have h4 := hcell 4 _ rfl
  have hsz : kGFilter.sz = 5 := rfl
  rw [hsz] at h4
  rw [hoff]
  refine ⟨g, cs, T, fr, rfl, h12 _ _ hg, hS3, (Array.getElem?_eq_some_iff.1 h4).1, fun T3 hT3 => ?_⟩
  have hn3 : RdA (kInt .i64) T3 A' c' (fs.getD k.toNat default).coefs := by
    refine hn.mono ?_
    rw [hT3]
    exact le_put Im.minus_le (by unfold Im.minus; rw [hg])
  have hch : Chg (CoR T2 T3) T2 T3 := by
    have hR : CoR T2 T3 (.slice A0 (fs.getD k.toNat default).coefs.length c0) (.slice A' (fs.getD k.toNat default).coefs.length c') := .inr ⟨A0, c0, A', c', _, rfl, rfl, e3.mono h12, hn3⟩
    have := Chg.put (R := CoR T2 T3) CoR.refl (h12 _ _ hg) h4 hR
    rw [← hT3] at this
    exact this
  refine ⟨?_, hch, fun B e gs hb => (keeps_filter hch).rda CoR.refl hch hb, fun B e us hb => (keeps_anyN 5 _ _ _ _).rda CoR.refl hch.minus hb⟩
  rw [hT3]
  exact le_put (ImLe.trans h31 h12) hS3

theorem shape_at {S : Im} {cells : List Value} {tns : List (List GFilter)} {A : Option Addr} {n c : Nat} {j : Int} (h : RdL (kSl (kAnyN 5)) S cells (tns.map shp)) (hcut : [Value.slice A n c] = (cells.drop (j.toNat * 1)).take 1) (h0 : 0 ≤ j) (h1 : j < tns.length) :
    RdA (kAnyN 5) S A c (shp (tns.getD j.toNat default)) := by
  have hk := h.get (i := j.toNat) (x := shp (tns.getD j.toNat default)) (by rw [List.getElem?_map, getD_some h0 h1]; rfl)
  obtain ⟨A', c', e, hr⟩ := hk
  have e : (cells.drop (j.toNat * 1)).take 1 = [Value.slice A' (shp (tns.getD j.toNat default)).length c'] := e
  rw [← hcut] at e
  simp only [List.cons.injEq, Value.slice.injEq, and_true] at e
  obtain ⟨rfl, _, rfl⟩ := e
  exact hr
theorem le_none {S S' : Im} {g : Nat} (h : ImLe S S') (h0 : S' g = none) : S g = none := by
  cases hS : S g with
  | none => rfl
  | some o => have := h g o hS; rw [h0] at this; cases this
theorem RowOk.imp {α : Type} {d : Kd α} {S S' : Im} {A : Option Addr} {c : Nat} {cells : List Value} {xs : List α} (h : RowOk d S A c cells xs) (hd : ∀ cs x, d.K S cs x → d.K S' cs x) : RowOk d S' A c cells xs := ⟨h.rd.imp hd, h.len, h.pl, h.bd⟩

/-! ### A channel of which the gain and the lines may turn -/
def kChanT : Kd (List Unit) where
  sz := 9
  K := fun S cs x => ∃ n us A c, cs = .int .i64 n :: us ++ [.slice A x.length c] ∧ InR .i64 n ∧ us.length = 7 ∧ (∀ u ∈ us, u.oneCell' = true) ∧ RdA (kAnyI .i64) S A c x
  len := fun ⟨n, us, A, c, h, _, h2, _⟩ => by rw [h]; simp [h2]
  mono := fun hle ⟨n, us, A, c, h, h1, h2, h3, h4⟩ => ⟨n, us, A, c, h, h1, h2, h3, h4.mono hle⟩
  one := fun ⟨n, us, A, c, h, _, _, h3, _⟩ u hu => by
    rw [h] at hu
    simp only [List.cons_append, List.mem_cons, List.mem_append, List.not_mem_nil, or_false] at hu
    rcases hu with rfl | hu | rfl
    · rfl
    · exact h3 u hu
    · rfl
def tl (c : GChan) : List Unit := shp c.lines
theorem RdL.anyI {k : IntKind} {S : Im} : ∀ {xs : List Int} {cs : List Value}, RdL (kInt k) S cs xs → RdL (kAnyI k) S cs (shp xs)
  | [], _, _ => trivial
  | x :: _, _, h => ⟨⟨x, h.1.1, h.1.2⟩, RdL.anyI h.2⟩
theorem RdA.anyI {k : IntKind} {S : Im} {A : Option Addr} {c : Nat} {xs : List Int} (h : RdA (kInt k) S A c xs) : RdA (kAnyI k) S A c (shp xs) := by
  obtain ⟨h1, h2, h3, h4⟩ := h
  refine ⟨by rw [shp_length]; exact h1, h2, h3, ?_⟩
  rcases h4 with h4 | ⟨g, off, cs, T, fr, hA, hg, hr⟩
  · exact .inl (by rw [h4]; rfl)
  · exact .inr ⟨g, off, cs, T, fr, hA, hg, hr.anyI⟩
theorem RdL.anyB {S : Im} : ∀ {xs : List Bool} {cs : List Value}, RdL kBool S cs xs → RdL kAnyB S cs (shp xs)
  | [], _, _ => trivial
  | x :: _, _, h => ⟨⟨x, h.1⟩, RdL.anyB h.2⟩
theorem RdA.anyB {S : Im} {A : Option Addr} {c : Nat} {xs : List Bool} (h : RdA kBool S A c xs) : RdA kAnyB S A c (shp xs) := by
  obtain ⟨h1, h2, h3, h4⟩ := h
  refine ⟨by rw [shp_length]; exact h1, h2, h3, ?_⟩
  rcases h4 with h4 | ⟨g, off, cs, T, fr, hA, hg, hr⟩
  · exact .inl (by rw [h4]; rfl)
  · exact .inr ⟨g, off, cs, T, fr, hA, hg, hr.anyB⟩
theorem RdL.anyBB {S : Im} : ∀ {xs : List (List Bool)} {cs : List Value}, RdL (kSl kBool) S cs xs → RdL (kSl kAnyB) S cs (xs.map shp)
  | [], _, _ => trivial
  | x :: _, _, h => by
    obtain ⟨⟨A, c, e, h1⟩, h2⟩ := h
    exact ⟨⟨A, c, by rw [shp_length]; exact e, h1.anyB⟩, RdL.anyBB h2⟩
theorem RdA.anyBB {S : Im} {A : Option Addr} {c : Nat} {xs : List (List Bool)} (h : RdA (kSl kBool) S A c xs) : RdA (kSl kAnyB) S A c (xs.map shp) := by
  obtain ⟨h1, h2, h3, h4⟩ := h
  refine ⟨by rw [List.length_map]; exact h1, h2, h3, ?_⟩
  rcases h4 with h4 | ⟨g, off, cs, T, fr, hA, hg, hr⟩
  · exact .inl (by rw [h4]; rfl)
  · exact .inr ⟨g, off, cs, T, fr, hA, hg, hr.anyBB⟩
theorem map_tl {s : List GChan} {i : Int} (h0 : 0 ≤ i) (h1 : i < s.length) : (s.map tl).getD i.toNat default = tl (s.getD i.toNat default) := by
  have hi : i.toNat < s.length := by omega
  rw [List.getD_eq_getElem?_getD, List.getD_eq_getElem?_getD, List.getElem?_map, List.getElem?_eq_getElem hi]; rfl
theorem keeps_chanT {S S' : Im} (hS : Chg ShR S S') : Keeps ShR S S' kChanT := by
  intro us us' x hc h
  obtain ⟨n, vs, A, c, rfl, h1, h2, h3, h4⟩ := h
  obtain ⟨u0, r0, rfl, e0, hc⟩ := chl_cons hc
  match vs, h2 with
  | [a1, a2, a3, a4, a5, a6, a7], _ =>
    obtain ⟨u1, r1, rfl, e1, hc⟩ := chl_cons hc
    obtain ⟨u2, r2, rfl, e2, hc⟩ := chl_cons hc
    obtain ⟨u3, r3, rfl, e3, hc⟩ := chl_cons hc
    obtain ⟨u4, r4, rfl, e4, hc⟩ := chl_cons hc
    obtain ⟨u5, r5, rfl, e5, hc⟩ := chl_cons hc
    obtain ⟨u6, r6, rfl, e6, hc⟩ := chl_cons hc
    obtain ⟨u7, r7, rfl, e7, hc⟩ := chl_cons hc
    obtain ⟨u8, r8, rfl, e8, hc⟩ := chl_cons hc
    have := chl_nil hc
    subst this
    have hone : ∀ {u v : Value}, ShR u v → u.oneCell' = true → v.oneCell' = true := fun h hu => by
      rcases h with rfl | ⟨k, m, n, _, rfl, _⟩ | ⟨a, b, _, rfl⟩
      · exact hu
      · rfl
      · rfl
    have hg : ∃ n', u0 = .int .i64 n' ∧ InR .i64 n' := by
      rcases e0 with h | ⟨k, m, n', h, rfl, hr⟩ | ⟨a, b, h, _⟩
      · exact ⟨n, h.symm, h1⟩
      · cases h; exact ⟨n', rfl, hr⟩
      · cases h
    obtain ⟨n', rfl, hn'⟩ := hg
    rw [e8.slice]
    refine ⟨n', [u1, u2, u3, u4, u5, u6, u7], A, c, rfl, hn', rfl, fun u hu => ?_, (keeps_anyI _ _ _).rda ShR.refl hS h4⟩
    simp only [List.mem_cons, List.not_mem_nil, or_false] at hu
    rcases hu with rfl | rfl | rfl | rfl | rfl | rfl | rfl
    · exact hone e1 (h3 _ (by simp))
    · exact hone e2 (h3 _ (by simp))
    · exact hone e3 (h3 _ (by simp))
    · exact hone e4 (h3 _ (by simp))
    · exact hone e5 (h3 _ (by simp))
    · exact hone e6 (h3 _ (by simp))
    · exact hone e7 (h3 _ (by simp))
end Go.Proofs.Ythamgiecgilmdaa
