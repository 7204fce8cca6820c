/- Stores into what is new and is else read alone: it reads as before, or its shape stays. -/
import Derived.Test.YthamgiecgilmdaaRbO
namespace Go.Proofs.Ythamgiecgilmdaa
open Go Go.RowKit

section
variable {E : Env} {S : Im} {L : List (Nat × HA)} {w : World} {g : Nat} {cs cs' : Array Value} {T : TypeId} {fr : Nat × Nat}

theorem Hp.put (h : Hp E S L w) (hS : S g = some (.cells cs T fr)) (h0 : E.S0 g = none) (hfr : fr = (0, 0)) : Hp E (S.put g (.cells cs' T fr)) L (w.setRow g cs') := by
  subst hfr
  have hg := grownBy_setRow w g cs'
  have hne : ∀ b, b ≠ g → (w.setRow g cs').heap[b]? = w.heap[b]? := fun b hb => by
    simp only [World.setRow, Array.getElem?_modify]
    rw [if_neg (fun e => hb (by rw [e]))]
  have hat : (w.setRow g cs').heap[g]? = some (.cells cs' T (0, 0)) := setRow_heap w g _ _ T _ (h.im _ _ hS)
  have hnew : E.w0.heap.size ≤ g ∨ E.C g := by
    rcases h.new g _ hS with h1 | h1
    · rw [h0] at h1; cases h1
    · exact h1
  have hput : ∀ b o, (S.put g (.cells cs' T (0, 0))) b = some o → (b = g ∧ o = .cells cs' T (0, 0)) ∨ (b ≠ g ∧ S b = some o) := fun b o hb => by
    unfold Im.put at hb
    split at hb
    · rename_i e; cases hb; exact .inl ⟨e, rfl⟩
    · rename_i e; exact .inr ⟨e, hb⟩
  have hof : ∀ b, b ≠ g → (S.put g (.cells cs' T (0, 0))) b = S b := fun b hb => by unfold Im.put; rw [if_neg hb]
  refine ⟨h.os, h.tape, h.output, Nat.le_trans h.size hg.size, fun b hb hC => ?_, fun b o hb => ?_, fun b o hb => ?_, fun b cs1 T1 fr1 hb hb0 => ?_, fun b o hb => ?_, fun b o hb => ?_, fun k x hx => ?_, h.apart⟩
  · refine (hne b (fun e => ?_)).trans (h.frame b hb hC)
    subst e
    rcases hnew with h1 | h1
    · omega
    · exact hC h1
  · rcases hput b o hb with ⟨rfl, rfl⟩ | ⟨h1, h2⟩
    · exact hat
    · exact (hne b h1).trans (h.im b o h2)
  · rcases hput b o hb with ⟨rfl, rfl⟩ | ⟨h1, h2⟩
    · exact ⟨_, _, _, rfl⟩
    · exact h.imc b o h2
  · rcases hput b _ hb with ⟨rfl, h2⟩ | ⟨h1, h2⟩
    · cases h2; rfl
    · exact h.soft b _ _ _ h2 hb0
  · rw [hof b (fun e => by subst e; rw [h0] at hb; cases hb)]; exact h.le b o hb
  · rcases hput b o hb with ⟨rfl, rfl⟩ | ⟨h1, h2⟩
    · exact .inr hnew
    · exact h.new b o h2
  · have hk := h.own k x hx
    have hn : ∀ q, x.foot = some q → q ≠ g := fun q hq e => by subst e; rw [(hk.2 q hq).1] at hS; cases hS
    exact ⟨HA.kept hk.1 fun q hq => hne q (hn q hq), fun q hq => ⟨by rw [hof q (hn q hq)]; exact (hk.2 q hq).1, (hk.2 q hq).2⟩⟩
end

theorem op_storeIm {P : Program} {E : Env} {S : Im} {L : List (Nat × HA)} {l : List (Nat × Value)} {K : Im → List (Nat × HA) → List (Nat × Value) → Prop} {ty : TypeId} {pos : String} {af : Array Edge} {gd : Option (Nat × Bool)}
    {t : TypeId} {x y : Operand} {ad : Addr} {v : Value} {cs : Array Value} {T : TypeId} {fr : Nat × Nat} (hx : ev l x = some (.pointer (some ad))) (hsp : ad.spot = none) (hy : ev l y = some v) (hv : v.cells = [v].toArray) (hs : tSz P t = some 1) (h1 : v.oneCell' = true)
    (hS : S ad.block = some (.cells cs T fr)) (h0 : E.S0 ad.block = none) (hfit : ad.off < cs.size) (k : K (S.put ad.block (.cells (cs.setIfInBounds ad.off v) T fr)) L l) : Op1 P E S L l ⟨none, .store t x y, ty, pos, af, gd⟩ K := by
  intro a w X h hX
  obtain ⟨g, off, sp⟩ := ad
  simp only at hsp hS h0 hfit; subst hsp
  have hfr := h.hp.soft g cs T fr hS h0
  subst hfr
  have hb : w.heap[g]? = some (.cells cs T (0, 0)) := h.hp.im _ _ hS
  have hst := run_storeCells_at P g off T [v] 0 cs w hb (by simp; omega) (by simpa using h1)
  simp only [Nat.add_zero] at hst
  have hcur : (cs.toList.take off ++ [v] ++ cs.toList.drop (off + [v].length)).toArray = cs.setIfInBounds off v := by
    apply Array.ext'
    rw [Array.toList_setIfInBounds, List.set_eq_take_append_cons_drop, if_pos (by simpa using hfit)]; simp
  rw [hcur] at hst
  have h' := h.hp.put (cs' := cs.setIfInBounds off v) hS h0 rfl
  have hm : Mk E.w0.heap.size a.defers (w.setRow g (cs.setIfInBounds off v)) := h.marks.kept fun D hD => by
    simp only [World.setRow, Array.getElem?_modify]
    rw [if_neg (fun e => by subst e; rw [hb] at hD; cases hD)]
  have hr : (execOp a.eval ⟨none, .store t x y, ty, pos, af, gd⟩).run P w = .ok .skip (w.setRow g (cs.setIfInBounds off v)) := by
    simp [execOp, h.ag.ev hx, h.ag.ev hy, Instr.storeAt, Instr.sureAddr, storeVar, Sem.run_bind, tSz_run hs, hv, Result.andThen, Sem.run, hst]
  unfold Oper.wp
  rw [hr]
  exact hX _ _ _ _ _ k ⟨h.ag, h', hm⟩

/-! ### What a change of cells leaves -/
/-- One cell's value may have turned into another by R. -/
def Chg (R : Value → Value → Prop) (S S' : Im) : Prop := ∀ (b : Nat) (o : Obj), S b = some o → S' b = some o ∨ ∃ (cs cs' : Array Value) (T : TypeId) (fr : Nat × Nat), o = .cells cs T fr ∧ S' b = some (.cells cs' T fr) ∧ cs'.size = cs.size ∧ ∀ (j : Nat) (u : Value), cs[j]? = some u → ∃ u', cs'[j]? = some u' ∧ R u u'

/-- Lists whose cells have turned by R. -/
def ChL (R : Value → Value → Prop) (us us' : List Value) : Prop := us'.length = us.length ∧ ∀ (j : Nat) (u : Value), us[j]? = some u → ∃ u', us'[j]? = some u' ∧ R u u'

section
variable {R : Value → Value → Prop} {S S' : Im}
theorem ChL.refl (hr : ∀ u, R u u) (us : List Value) : ChL R us us := ⟨rfl, fun j u hj => ⟨u, hj, hr u⟩⟩
theorem ChL.drop {us us' : List Value} (h : ChL R us us') (n : Nat) : ChL R (us.drop n) (us'.drop n) :=
  ⟨by rw [List.length_drop, List.length_drop, h.1], fun j u hj => by rw [List.getElem?_drop] at hj ⊢; exact h.2 _ _ hj⟩
theorem ChL.take {us us' : List Value} (h : ChL R us us') (n : Nat) : ChL R (us.take n) (us'.take n) :=
  ⟨by rw [List.length_take, List.length_take, h.1], fun j u hj => by
    have hlt : j < n := by
      have := (List.getElem?_eq_some_iff.1 hj).1
      rw [List.length_take] at this; omega
    rw [List.getElem?_take_of_lt hlt] at hj ⊢; exact h.2 _ _ hj⟩

/-- A kind that a change leaves. -/
def Keeps {α : Type} (R : Value → Value → Prop) (S S' : Im) (d : Kd α) : Prop := ∀ us us' x, ChL R us us' → d.K S us x → d.K S' us' x

theorem Keeps.rdl {α : Type} {d : Kd α} (hd : Keeps R S S' d) : ∀ {xs : List α} {us us' : List Value}, ChL R us us' → RdL d S us xs → RdL d S' us' xs
  | [], _, _, _, _ => trivial
  | x :: xs, us, us', hc, h => ⟨hd _ _ _ (hc.take _) h.1, Keeps.rdl hd (hc.drop _) h.2⟩

theorem Keeps.rda {α : Type} {d : Kd α} (hr : ∀ u, R u u) (hd : Keeps R S S' d) (hS : Chg R S S') {A : Option Addr} {c : Nat} {xs : List α} (h : RdA d S A c xs) : RdA d S' A c xs := by
  obtain ⟨h1, h2, h3, h4⟩ := h
  refine ⟨h1, h2, h3, ?_⟩
  rcases h4 with h4 | ⟨g, off, cs, T, fr, hA, hg, hrd⟩
  · exact .inl h4
  · rcases hS g _ hg with hg' | ⟨cs1, cs', T', fr', e, hg', hsz, hcc⟩
    · exact .inr ⟨g, off, cs, T, fr, hA, hg', hd.rdl (ChL.refl hr _) hrd⟩
    · cases e
      refine .inr ⟨g, off, cs', T, fr, hA, hg', hd.rdl ?_ hrd⟩
      refine ChL.drop (us := cs.toList) (us' := cs'.toList) ⟨by simpa using hsz, fun j u hj => ?_⟩ off
      obtain ⟨u', h5, h6⟩ := hcc j u (by simpa using hj)
      exact ⟨u', by simpa using h5, h6⟩

theorem chl_one {u : Value} {us' : List Value} (h : ChL R [u] us') : ∃ u', us' = [u'] ∧ R u u' := by
  obtain ⟨hl, hr⟩ := h
  obtain ⟨u', h1, h2⟩ := hr 0 u rfl
  match us', hl, h1 with
  | [a], _, h1 => simp at h1; subst h1; exact ⟨a, rfl, h2⟩

/-- A slice's cell stays, and what it leads to. -/
theorem keeps_sl {α : Type} {d : Kd α} (hr : ∀ u, R u u) (hd : Keeps R S S' d) (hS : Chg R S S') (hR : ∀ A n c u', R (.slice A n c) u' → u' = .slice A n c) : Keeps R S S' (kSl d) := by
  intro us us' x hc h
  obtain ⟨A, c, rfl, hrd⟩ := h
  obtain ⟨u', rfl, hu⟩ := chl_one hc
  rw [hR _ _ _ _ hu]
  exact ⟨A, c, rfl, hd.rda hr hS hrd⟩

theorem Chg.minus (h : Chg R S S') {Sb : Im} : Chg R (S.minus Sb) (S'.minus Sb) := fun b o hb => by
  have hn := Im.minus_apart hb
  rcases h b o (Im.minus_le _ _ hb) with h1 | ⟨cs, cs', T, fr, h1, h2, h3, h4⟩
  · exact .inl (by unfold Im.minus; rw [hn]; exact h1)
  · exact .inr ⟨cs, cs', T, fr, h1, by unfold Im.minus; rw [hn]; exact h2, h3, h4⟩

theorem Chg.put {g : Nat} {cs : Array Value} {T : TypeId} {fr : Nat × Nat} {off : Nat} {v u : Value} (hrefl : ∀ u, R u u) (hS : S g = some (.cells cs T fr)) (hu : cs[off]? = some u) (hR : R u v) :
    Chg R S (S.put g (.cells (cs.setIfInBounds off v) T fr)) := fun b o hb => by
  by_cases e : b = g
  · subst e
    rw [hS] at hb; cases hb
    refine .inr ⟨cs, cs.setIfInBounds off v, T, fr, rfl, by simp [Im.put], by simp, fun j u' hj => ?_⟩
    by_cases e2 : j = off
    · subst e2
      rw [hu] at hj; cases hj
      exact ⟨v, by rw [Array.getElem?_setIfInBounds_self_of_lt (Array.getElem?_eq_some_iff.1 hu).1], hR⟩
    · exact ⟨u', by rw [Array.getElem?_setIfInBounds_ne (fun h => e2 h.symm)]; exact hj, hrefl _⟩
  · exact .inl (by simp [Im.put, e, hb])

theorem le_put {S0 : Im} {g : Nat} {o : Obj} (h : ImLe S0 S) (h0 : S0 g = none) : ImLe S0 (S.put g o) := fun b o' hb => by
  unfold Im.put
  split
  · rename_i e; subst e; rw [h0] at hb; cases hb
  · exact h b o' hb
end

/-! ### Shapes: numbers and truths may turn -/
def ShR (u v : Value) : Prop := u = v ∨ (∃ k m n, u = .int k m ∧ v = .int k n ∧ InR k n) ∨ (∃ a b, u = .bool a ∧ v = .bool b)
theorem ShR.refl (u : Value) : ShR u u := .inl rfl
theorem ShR.slice {A : Option Addr} {n c : Nat} {v : Value} (h : ShR (.slice A n c) v) : v = .slice A n c := by
  rcases h with h | ⟨k, m, n', h, _⟩ | ⟨a, b, h, _⟩
  · exact h.symm
  · cases h
  · cases h
def kAnyI (k : IntKind) : Kd Unit where
  sz := 1
  K := fun _ cs _ => ∃ n, cs = [.int k n] ∧ InR k n
  len := fun ⟨n, h, _⟩ => by rw [h]; rfl
  mono := fun _ h => h
  one := fun ⟨n, h, _⟩ u hu => by rw [h] at hu; simp at hu; subst hu; rfl
def kAnyB : Kd Unit where
  sz := 1
  K := fun _ cs _ => ∃ b, cs = [.bool b]
  len := fun ⟨n, h⟩ => by rw [h]; rfl
  mono := fun _ h => h
  one := fun ⟨n, h⟩ u hu => by rw [h] at hu; simp at hu; subst hu; rfl
theorem keeps_anyI (k : IntKind) (S S' : Im) : Keeps ShR S S' (kAnyI k) := by
  intro us us' x hc ⟨n, h, hn⟩
  subst h
  obtain ⟨u', rfl, hu⟩ := chl_one hc
  rcases hu with h | ⟨k', m, n', h, rfl, hr⟩ | ⟨a, b, h, _⟩
  · exact ⟨n, by rw [h], hn⟩
  · cases h; exact ⟨n', rfl, hr⟩
  · cases h
theorem keeps_anyB (S S' : Im) : Keeps ShR S S' kAnyB := by
  intro us us' x hc ⟨n, h⟩
  subst h
  obtain ⟨u', rfl, hu⟩ := chl_one hc
  rcases hu with h | ⟨k', m, n', h, _⟩ | ⟨a, b, h, rfl⟩
  · exact ⟨n, by rw [h]⟩
  · cases h
  · exact ⟨b, rfl⟩

/-! ### Any cells -/
def kAnyN (n : Nat) : Kd Unit where
  sz := n
  K := fun _ cs _ => cs.length = n ∧ ∀ u ∈ cs, u.oneCell' = true
  len := fun h => h.1
  mono := fun _ h => h
  one := fun h => h.2
def shp {α : Type} (t : List α) : List Unit := t.map fun _ => ()
theorem shp_length {α : Type} (t : List α) : (shp t).length = t.length := by simp [shp]
theorem RdL.shape {α : Type} {d : Kd α} {S S' : Im} {n : Nat} (hn : d.sz = n) : ∀ {xs : List α} {cs : List Value}, RdL d S cs xs → RdL (kAnyN n) S' cs (shp xs)
  | [], _, _ => trivial
  | x :: xs, cs, h => ⟨⟨by subst hn; exact d.len h.1, by subst hn; exact d.one h.1⟩, by subst hn; exact RdL.shape rfl h.2⟩

theorem RdL.imp {α : Type} {d : Kd α} {S S' : Im} (hd : ∀ cs x, d.K S cs x → d.K S' cs x) : ∀ {xs : List α} {cs : List Value}, RdL d S cs xs → RdL d S' cs xs
  | [], _, _ => trivial
  | _ :: _, _, h => ⟨hd _ _ h.1, RdL.imp hd h.2⟩

/-- Where the cells of element i stand. -/
theorem RdA.cellAt {α : Type} [Inhabited α] {d : Kd α} {S : Im} {A : Option Addr} {c : Nat} {xs : List α} (h : RdA d S A c xs) {i : Int} (h0 : 0 ≤ i) (h1 : i < xs.length) : ∃ g off cs T fr us, A = some ⟨g, off, none⟩ ∧ S g = some (.cells cs T fr) ∧ d.K S us (xs.getD i.toNat default) ∧
    ∀ (j : Nat) (u : Value), us[j]? = some u → cs[off + i.toNat * d.sz + j]? = some u := by
  rcases h.2.2.2 with h4 | ⟨g, off, cs, T, fr, rfl, hS, hr⟩
  · subst h4; simp at h1; omega
  · have hk := hr.get (getD_some h0 h1)
    refine ⟨g, off, cs, T, fr, _, rfl, hS, hk, fun j u hj => ?_⟩
    have hlt : j < d.sz := by
      have := (List.getElem?_eq_some_iff.1 hj).1
      rw [List.length_take] at this; omega
    rw [List.getElem?_take_of_lt hlt, List.getElem?_drop, List.getElem?_drop] at hj
    rw [show off + i.toNat * d.sz + j = off + (i.toNat * d.sz + j) by omega]
    simpa using hj

/-- Numbers that are read twice are the same. -/
theorem RdL.func {k : IntKind} {S S' : Im} : ∀ {xs ys : List Int} {cs : List Value}, RdL (kInt k) S cs xs → RdL (kInt k) S' cs ys → xs.length = ys.length → xs = ys
  | [], [], _, _, _, _ => rfl
  | [], _ :: _, _, _, _, h => by simp at h
  | _ :: _, [], _, _, _, h => by simp at h
  | x :: xs, y :: ys, cs, h, h', hl => by
    have e1 := h.1.1
    have e2 := h'.1.1
    rw [e1] at e2
    simp at e2
    have e3 : xs = ys := RdL.func (cs := cs.drop 1) h.2 h'.2 (by simpa using hl)
    rw [e2, e3]
theorem RdA.func {k : IntKind} {S : Im} {A : Option Addr} {c c' : Nat} {xs ys : List Int} (h : RdA (kInt k) S A c xs) (h' : RdA (kInt k) S A c' ys) (hl : xs.length = ys.length) : xs = ys := by
  rcases h.2.2.2 with h4 | ⟨g, off, cs, T, fr, hA, hS, hr⟩
  · subst h4; exact (List.eq_nil_of_length_eq_zero (by simpa using hl.symm)).symm
  · rcases h'.2.2.2 with h5 | ⟨g', off', cs', T', fr', hA', hS', hr'⟩
    · subst h5; exact List.eq_nil_of_length_eq_zero (by simpa using hl)
    · rw [hA] at hA'; cases hA'
      rw [hS] at hS'; cases hS'
      exact hr.func hr' hl

/-! ### A slice of numbers gives way to another of the same ones -/
def CoR (S S' : Im) (u v : Value) : Prop := u = v ∨ ∃ A c A' c', ∃ xs : List Int, u = .slice A xs.length c ∧ v = .slice A' xs.length c' ∧ RdA (kInt .i64) S A c xs ∧ RdA (kInt .i64) S' A' c' xs
theorem CoR.refl {S S' : Im} (u : Value) : CoR S S' u u := .inl rfl
theorem CoR.one {S S' : Im} {u v : Value} (h : CoR S S' u v) (hu : u.oneCell' = true) : v.oneCell' = true := by
  rcases h with rfl | ⟨A, c, A', c', xs, _, rfl, _⟩
  · exact hu
  · rfl
theorem CoR.int {S S' : Im} {k : IntKind} {n : Int} {v : Value} (h : CoR S S' (.int k n) v) : v = .int k n := by
  rcases h with h | ⟨A, c, A', c', xs, h, _⟩
  · exact h.symm
  · cases h
theorem CoR.bool {S S' : Im} {b : Bool} {v : Value} (h : CoR S S' (.bool b) v) : v = .bool b := by
  rcases h with h | ⟨A, c, A', c', xs, h, _⟩
  · exact h.symm
  · cases h
theorem keeps_int (k : IntKind) (S S' : Im) : Keeps (CoR S S') S S' (kInt k) := by
  intro us us' x hc ⟨h, hn⟩
  subst h
  obtain ⟨u', rfl, hu⟩ := chl_one hc
  rw [hu.int]
  exact ⟨rfl, hn⟩
theorem keeps_anyN (n : Nat) (S S' S1 S2 : Im) : Keeps (CoR S S') S1 S2 (kAnyN n) := by
  intro us us' x hc ⟨h, hn⟩
  refine ⟨by rw [hc.1]; exact h, fun u' hu' => ?_⟩
  obtain ⟨j, hj⟩ := List.getElem?_of_mem hu'
  have hlt := (List.getElem?_eq_some_iff.1 hj).1
  have hu := List.getElem?_eq_getElem (l := us) (i := j) (by rw [← hc.1]; exact hlt)
  obtain ⟨u2, h2, h3⟩ := hc.2 j _ hu
  rw [hj] at h2; cases h2
  exact h3.one (hn _ (List.getElem_mem _))
/-- A cell that is a slice of numbers. -/
theorem CoR.slice {S S' : Im} (hS : Chg (CoR S S') S S') {A : Option Addr} {c : Nat} {xs : List Int} {v : Value} (h : CoR S S' (.slice A xs.length c) v) (hr : RdA (kInt .i64) S A c xs) : ∃ A' c', v = .slice A' xs.length c' ∧ RdA (kInt .i64) S' A' c' xs := by
  rcases h with rfl | ⟨A1, c1, A', c', ys, h1, rfl, h2, h3⟩
  · exact ⟨A, c, rfl, (keeps_int .i64 S S').rda CoR.refl hS hr⟩
  · injection h1 with e1 e2 e3
    subst e1; subst e3
    have := hr.func h2 e2
    subst this
    exact ⟨A', c', rfl, h3⟩

theorem map_shp {α : Type} {s : List (List α)} {i : Int} (h0 : 0 ≤ i) (h1 : i < s.length) : (s.map shp).getD i.toNat default = shp (s.getD i.toNat default) := by
  have hi : i.toNat < s.length := by omega
  rw [List.getD_eq_getElem?_getD, List.getD_eq_getElem?_getD, List.getElem?_map, List.getElem?_eq_getElem hi]; rfl
theorem RdL.whole {α : Type} {d : Kd α} {S : Im} {cells : List Value} {xs : List α} {n z : Nat} {i : Int} (h : RdL d S (cells.take (i.toNat * z)) (xs.take i.toNat)) (hl : cells.length = n * z) (hn : xs.length = n) (h0 : 0 ≤ i) (hi : (n : Int) ≤ i) : RdL d S cells xs := by
  rw [List.take_of_length_le (by rw [hl]; exact Nat.mul_le_mul_right _ (by omega)), List.take_of_length_le (by omega)] at h
  exact h
end Go.Proofs.Ythamgiecgilmdaa
