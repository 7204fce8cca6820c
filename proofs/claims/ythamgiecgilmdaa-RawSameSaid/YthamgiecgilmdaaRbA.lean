/- A small Hoare logic over the model's single operations: slots as a list, memory as an immutable part S and owned entries L. -/
import Derived.WalkKit
import Derived.OwnWalkIn
import Derived.OrdersHeld
import Derived.RangeFuncLeaves
import Derived.RangeFuncWrites
namespace Go.Proofs.Ythamgiecgilmdaa
open Go Go.RowKit

def lk {α : Type} : List (Nat × α) → Nat → Option α
  | [], _ => none
  | (j, v) :: t, i => cond (Nat.beq i j) (some v) (lk t i)

theorem lk_same {α : Type} (l : List (Nat × α)) (i : Nat) (v : α) : lk ((i, v) :: l) i = some v := by simp [lk]
theorem lk_ne {α : Type} (l : List (Nat × α)) {i j : Nat} (v : α) (h : i ≠ j) : lk ((j, v) :: l) i = lk l i := by
  have : Nat.beq i j = false := by
    cases hb : Nat.beq i j with
    | false => rfl
    | true => exact absurd (Nat.eq_of_beq_eq_true hb) h
  simp [lk, this]

/-- Each row of the second list is what the first one says. -/
def Sub {α : Type} (l : List (Nat × α)) : List (Nat × α) → Prop
  | [] => True
  | p :: t => lk l p.1 = some p.2 ∧ Sub l t

theorem Sub.lk {α : Type} {l : List (Nat × α)} : ∀ {l' : List (Nat × α)}, Sub l l' → ∀ {i : Nat} {v : α}, lk l' i = some v → lk l i = some v
  | [], _, i, v, h => by simp [Go.Proofs.Ythamgiecgilmdaa.lk] at h
  | (j, u) :: t, hs, i, v, h => by
    by_cases e : i = j
    · subst e; rw [lk_same] at h; cases h; exact hs.1
    · rw [lk_ne _ _ e] at h; exact hs.2.lk h

structure Ag (n : Nat) (l : List (Nat × Value)) (a : Act) : Prop where
  size : a.tmps.size = n
  val : ∀ i v, lk l i = some v → a.tmps[i]? = some v

theorem Ag.sub {n : Nat} {l l' : List (Nat × Value)} {a : Act} (h : Ag n l a) (hs : Sub l l') : Ag n l' a := ⟨h.size, fun i v hv => h.val i v (hs.lk hv)⟩

def ev (l : List (Nat × Value)) : Operand → Option Value
  | .tmp i => lk l i
  | .const v => some v
  | .func f => some (.func (.func f) #[] #[])
  | .global g => some (.pointer (some ⟨g, 0, none⟩))

theorem Ag.ev {n : Nat} {l : List (Nat × Value)} {a : Act} (h : Ag n l a) {x : Operand} {v : Value} (hx : ev l x = some v) : a.eval x = v := by
  cases x with
  | tmp i => have := h.val i v hx; simp [Act.eval, this]
  | const u => simpa [Go.Proofs.Ythamgiecgilmdaa.ev, Act.eval] using hx
  | func f => simpa [Go.Proofs.Ythamgiecgilmdaa.ev, Act.eval] using hx
  | global g => simpa [Go.Proofs.Ythamgiecgilmdaa.ev, Act.eval] using hx

theorem Ag.put {n : Nat} {l : List (Nat × Value)} {a : Act} (h : Ag n l a) {d : Nat} (hd : d < n) (v : Value) : Ag n ((d, v) :: l) (a.put (some d) v) := by
  refine ⟨by simp [Act.put, h.size], fun i u hu => ?_⟩
  by_cases e : i = d
  · subst e; rw [lk_same] at hu; cases hu; simp [Act.put, h.size, hd]
  · rw [lk_ne _ _ e] at hu; have := h.val i u hu
    simp only [Act.put]; rw [Array.getElem?_setIfInBounds_ne (fun e' => e e'.symm)]; exact this

theorem Ag.none {n : Nat} {l : List (Nat × Value)} {a : Act} (h : Ag n l a) (v : Value) : Ag n l (a.put Option.none v) := h

def evs (l : List (Nat × Value)) : List Operand → Option (List Value)
  | [] => some []
  | x :: t => (Go.Proofs.Ythamgiecgilmdaa.ev l x).bind fun v => (evs l t).map (v :: ·)

theorem Ag.evs {n : Nat} {l : List (Nat × Value)} {a : Act} (h : Ag n l a) : ∀ {xs : List Operand} {vs : List Value}, evs l xs = some vs → xs.map a.eval = vs
  | [], vs, e => by simp [Go.Proofs.Ythamgiecgilmdaa.evs] at e; simp [e]
  | x :: t, vs, e => by
    simp only [Go.Proofs.Ythamgiecgilmdaa.evs, Option.bind_eq_some_iff, Option.map_eq_some_iff] at e
    obtain ⟨v, hv, us, hus, rfl⟩ := e
    simp [h.ev hv, h.evs hus]

/-! ### Memory -/
inductive HA where
  | blk (g : Nat) (cs : List Value) (T : TypeId)
  | row (v : Value) (T sz n : Nat) (xs : List Value)
  | gone

def HA.foot : HA → Option Nat
  | .blk g _ _ => some g
  | .row v _ _ _ _ => v.ownBlock
  | .gone => none

def HA.holds (w : World) : HA → Prop
  | .blk g cs T => w.heap[g]? = some (.cells cs.toArray T (0, 0))
  | .row v T sz n xs => w.ownsRow 0 T sz v n xs
  | .gone => True

theorem HA.lt {w : World} {h : HA} (hh : h.holds w) {g : Nat} (hf : h.foot = some g) : g < w.heap.size := by
  cases h with
  | blk g' cs T => cases hf; exact (Array.getElem?_eq_some_iff.1 hh).1
  | row v T sz n xs => exact (World.ownsRow.lt hh g hf).2
  | gone => cases hf

theorem HA.kept {w w' : World} {h : HA} (hh : h.holds w) (he : ∀ g, h.foot = some g → w'.heap[g]? = w.heap[g]?) : h.holds w' := by
  cases h with
  | blk g' cs T => exact (he g' rfl).trans hh
  | row v T sz n xs =>
    refine ⟨hh.1, ?_⟩
    rcases hh.2 with h0 | ⟨g, cap, cur, rfl, hb, hg, r⟩
    · exact .inl h0
    · exact .inr ⟨g, cap, cur, rfl, hb, (he g rfl).trans hg, r⟩
  | gone => trivial

theorem HA.cells_of {w : World} {h : HA} (hh : h.holds w) {g : Nat} (hf : h.foot = some g) : ∃ cs T, w.heap[g]? = some (.cells cs T (0, 0)) := by
  cases h with
  | blk g' cs T => cases hf; exact ⟨_, _, hh⟩
  | row v T sz n xs =>
    rcases hh.2 with ⟨rfl, _⟩ | ⟨g', cap, cur, rfl, hb, hg, r⟩
    · simp [HA.foot, Value.ownBlock] at hf
    · simp [HA.foot, Value.ownBlock] at hf; subst hf; exact ⟨_, _, hg⟩
  | gone => cases hf

abbrev Im := Nat → Option Obj

structure Env where
  n : Nat
  w0 : World
  C : Nat → Prop
  S0 : Im

structure Hp (E : Env) (S : Im) (L : List (Nat × HA)) (w : World) : Prop where
  os : w.os = E.w0.os
  tape : w.tape = E.w0.tape
  output : w.output = E.w0.output
  size : E.w0.heap.size ≤ w.heap.size
  frame : ∀ b, b < E.w0.heap.size → ¬ E.C b → w.heap[b]? = E.w0.heap[b]?
  im : ∀ b o, S b = some o → w.heap[b]? = some o
  imc : ∀ b o, S b = some o → ∃ cs T fr, o = .cells cs T fr
  soft : ∀ b cs T fr, S b = some (.cells cs T fr) → E.S0 b = none → fr = (0, 0)
  le : ∀ b o, E.S0 b = some o → S b = some o
  new : ∀ b o, S b = some o → E.S0 b = some o ∨ E.w0.heap.size ≤ b ∨ E.C b
  own : ∀ k h, lk L k = some h → h.holds w ∧ ∀ g, h.foot = some g → S g = none ∧ (E.w0.heap.size ≤ g ∨ E.C g)
  apart : ∀ j k h h' g, j ≠ k → lk L j = some h → lk L k = some h' → h.foot = some g → h'.foot = some g → False

theorem Hp.sub {E : Env} {S : Im} {L L' : List (Nat × HA)} {w : World} (h : Hp E S L w) (hs : Sub L L') : Hp E S L' w :=
  { h with own := fun k x hx => h.own k x (hs.lk hx), apart := fun j k x x' g hn hx hx' => h.apart j k x x' g hn (hs.lk hx) (hs.lk hx') }

/-- The world moves on by growth and by a turn of one owned entry. -/
theorem Hp.turn {E : Env} {S : Im} {L : List (Nat × HA)} {w w' : World} (h : Hp E S L w) {row : Option Nat} (hg : w.grownBy w' row) (k : Nat) (x : HA)
    (hrow : row = none ∨ ∃ x0, lk L k = some x0 ∧ x0.foot = row) (hx : x.holds w') (hf : ∀ g, x.foot = some g → row = some g ∨ w.heap.size ≤ g) : Hp E S ((k, x) :: L) w' := by
  have hrowS : ∀ g, row = some g → S g = none ∧ (E.w0.heap.size ≤ g ∨ E.C g) := fun g hg' => by
    rcases hrow with h0 | ⟨x0, hx0, hf0⟩
    · rw [h0] at hg'; cases hg'
    · exact (h.own k x0 hx0).2 g (hf0.trans hg')
  have hSlt : ∀ b o, S b = some o → b < w.heap.size := fun b o hb => (Array.getElem?_eq_some_iff.1 (h.im b o hb)).1
  have hoth : ∀ j y, j ≠ k → lk L j = some y → ∀ g, y.foot = some g → g < w.heap.size ∧ some g ≠ row := fun j y hj hy g hyg => by
    refine ⟨HA.lt (h.own j y hy).1 hyg, fun e => ?_⟩
    rcases hrow with h0 | ⟨x0, hx0, hf0⟩
    · rw [h0] at e; cases e
    · exact h.apart j k y x0 g hj hy hx0 hyg (hf0.trans e.symm)
  constructor
  · exact hg.os.trans h.os
  · exact hg.tape.trans h.tape
  · exact hg.output.trans h.output
  · exact Nat.le_trans h.size hg.size
  · intro b hb hC
    refine (hg.block b (Nat.lt_of_lt_of_le hb h.size) (fun e => ?_)).trans (h.frame b hb hC)
    rcases (hrowS b e.symm).2 with h1 | h1
    · omega
    · exact hC h1
  · intro b o hb
    refine (hg.block b (hSlt b o hb) (fun e => ?_)).trans (h.im b o hb)
    rw [(hrowS b e.symm).1] at hb; cases hb
  · exact h.imc
  · exact h.soft
  · exact h.le
  · exact h.new
  · intro j y hy
    by_cases e : j = k
    · subst e; rw [lk_same] at hy; cases hy
      refine ⟨hx, fun g hgf => ?_⟩
      rcases hf g hgf with h1 | h1
      · exact hrowS g h1
      · refine ⟨?_, .inl (Nat.le_trans h.size h1)⟩
        cases hS : S g with
        | none => rfl
        | some o => have := hSlt g o hS; omega
    · rw [lk_ne _ _ e] at hy
      refine ⟨HA.kept (h.own j y hy).1 (fun g hgf => ?_), (h.own j y hy).2⟩
      have := hoth j y e hy g hgf
      exact hg.block g this.1 this.2
  · intro j i y y' g hji hy hy' hfg hfg'
    by_cases e : j = k
    · subst e; rw [lk_same] at hy; cases hy; rw [lk_ne _ _ (fun e => hji e.symm)] at hy'
      have := hoth i y' (fun e => hji e.symm) hy' g hfg'
      rcases hf g hfg with h1 | h1
      · exact this.2 h1.symm
      · omega
    · rw [lk_ne _ _ e] at hy
      by_cases e' : i = k
      · subst e'; rw [lk_same] at hy'; cases hy'
        have := hoth j y e hy g hfg
        rcases hf g hfg' with h1 | h1
        · exact this.2 h1.symm
        · omega
      · rw [lk_ne _ _ e'] at hy'
        exact h.apart j i y y' g hji hy hy' hfg hfg'

theorem Hp.same {E : Env} {S : Im} {L : List (Nat × HA)} {w w' : World} (h : Hp E S L w) (hh : w'.heap = w.heap) (h1 : w'.os = w.os) (h2 : w'.tape = w.tape) (h3 : w'.output = w.output) : Hp E S L w' := by
  obtain ⟨os, tape, output, size, frame, im, imc, soft, le, new, own, apart⟩ := h
  refine ⟨h1.trans os, h2.trans tape, h3.trans output, by rw [hh]; exact size, by rw [hh]; exact frame, by rw [hh]; exact im, imc, soft, le, new, fun k x hx => ⟨HA.kept (own k x hx).1 (fun g _ => by rw [hh]), (own k x hx).2⟩, apart⟩

/-- An owned block is from now on read alone. -/
def Im.put (S : Im) (g : Nat) (o : Obj) : Im := fun b => if b = g then some o else S b

theorem Hp.freeze {E : Env} {S : Im} {L : List (Nat × HA)} {w : World} (h : Hp E S L w) (k : Nat) {g : Nat} {x : HA} {o : Obj} (hx : lk L k = some x) (hf : x.foot = some g) (ho : w.heap[g]? = some o) :
    Hp E (S.put g o) ((k, .gone) :: L) w := by
  have h1 := (h.own k x hx).2 g hf
  refine { h with im := ?_, imc := ?_, soft := ?_, le := ?_, new := ?_, own := ?_, apart := ?_ }
  · intro b o' hb
    unfold Im.put at hb
    split at hb
    · rename_i e; subst e; cases hb; exact ho
    · exact h.im b o' hb
  · intro b o' hb
    unfold Im.put at hb
    split at hb
    · cases hb
      obtain ⟨cs, T, hc⟩ := HA.cells_of (h.own k x hx).1 hf
      rw [hc] at ho; cases ho; exact ⟨_, _, _, rfl⟩
    · exact h.imc b o' hb
  · intro b cs' T' fr' hb h0
    unfold Im.put at hb
    split at hb
    · cases hb
      obtain ⟨cs, T, hc⟩ := HA.cells_of (h.own k x hx).1 hf
      rw [hc] at ho; cases ho; rfl
    · exact h.soft b cs' T' fr' hb h0
  · intro b o' hb
    unfold Im.put
    split
    · rename_i e; subst e; rw [h.le b o' hb] at h1; cases h1.1
    · exact h.le b o' hb
  · intro b o' hb
    unfold Im.put at hb
    split at hb
    · rename_i e; subst e; exact .inr h1.2
    · exact h.new b o' hb
  · intro j y hy
    by_cases e : j = k
    · subst e; rw [lk_same] at hy; cases hy; exact ⟨trivial, fun g' hg' => by cases hg'⟩
    · rw [lk_ne _ _ e] at hy
      refine ⟨(h.own j y hy).1, fun g' hg' => ⟨?_, ((h.own j y hy).2 g' hg').2⟩⟩
      unfold Im.put
      split
      · rename_i e'; subst e'; exact (h.apart j k y x g' e hy hx hg' hf).elim
      · exact ((h.own j y hy).2 g' hg').1
  · intro i j y y' g' hij hy hy' hfy hfy'
    by_cases e : i = k
    · subst e; rw [lk_same] at hy; cases hy; cases hfy
    · rw [lk_ne _ _ e] at hy
      by_cases e' : j = k
      · subst e'; rw [lk_same] at hy'; cases hy'; cases hfy'
      · rw [lk_ne _ _ e'] at hy'; exact h.apart i j y y' g' hij hy hy' hfy hfy'

theorem Im.put_le {S : Im} {g : Nat} {o : Obj} (h : S g = none) : ∀ b o', S b = some o' → S.put g o b = some o' := by
  intro b o' hb
  unfold Im.put
  split
  · rename_i e; subst e; rw [h] at hb; cases hb
  · exact hb

/-- The marks that ranges over functions have left. -/
def mk1 (D : Nat) : Deferred := { target := .collected D, args := #[] }
def Mk (B : Nat) (ds : List Deferred) (w : World) : Prop := ∃ Ds : List Nat, ds = Ds.map mk1 ∧ Ds.Nodup ∧ ∀ D ∈ Ds, B ≤ D ∧ w.heap[D]? = some (.deferred (some []))

theorem Mk.kept {B : Nat} {ds : List Deferred} {w w' : World} (h : Mk B ds w) (hk : ∀ D : Nat, w.heap[D]? = some (.deferred (some [])) → w'.heap[D]? = w.heap[D]?) : Mk B ds w' := by
  obtain ⟨Ds, e, hn, hD⟩ := h
  exact ⟨Ds, e, hn, fun D hd => ⟨(hD D hd).1, (hk D (hD D hd).2).trans (hD D hd).2⟩⟩

structure St (E : Env) (S : Im) (L : List (Nat × HA)) (l : List (Nat × Value)) (a : Act) (w : World) : Prop where
  ag : Ag E.n l a
  hp : Hp E S L w
  marks : Mk E.w0.heap.size a.defers w

theorem St.sub {E : Env} {S : Im} {L L' : List (Nat × HA)} {l l' : List (Nat × Value)} {a : Act} {w : World} (h : St E S L l a w) (hL : Sub L L') (hl : Sub l l') : St E S L' l' a w :=
  ⟨h.ag.sub hl, h.hp.sub hL, h.marks⟩

theorem Mk.turn {E : Env} {S : Im} {L : List (Nat × HA)} {w w' : World} {B : Nat} {ds : List Deferred} (m : Mk B ds w) (h : Hp E S L w) {row : Option Nat} (hg : w.grownBy w' row) (k : Nat)
    (hrow : row = none ∨ ∃ x0, lk L k = some x0 ∧ x0.foot = row) : Mk B ds w' := m.kept fun D hD => by
  refine hg.block D (Array.getElem?_eq_some_iff.1 hD).1 (fun e => ?_)
  rcases hrow with h0 | ⟨x0, hx0, hf0⟩
  · rw [h0] at e; cases e
  · obtain ⟨cs, T, hc⟩ := HA.cells_of (h.own k x0 hx0).1 (hf0.trans e.symm)
    rw [hc] at hD; cases hD

theorem Hp.putObj {E : Env} {S : Im} {L : List (Nat × HA)} {w : World} (h : Hp E S L w) {D : Nat} {o : Obj} (hB : E.w0.heap.size ≤ D) (hD : w.heap[D]? = some (.deferred (some []))) : Hp E S L (w.putObj D o) := by
  have hne : ∀ b : Nat, b ≠ D → (w.putObj D o).heap[b]? = w.heap[b]? := fun b hb => World.putObj_heap_other hb
  have hcell : ∀ {b : Nat} {cs T fr}, w.heap[b]? = some (.cells cs T fr) → b ≠ D := fun hb e => by subst e; rw [hb] at hD; cases hD
  refine { h with os := h.os, tape := h.tape, output := h.output, size := by simpa [World.putObj] using h.size, frame := fun b hb hC => (hne b (by omega)).trans (h.frame b hb hC), im := fun b o' hb => ?_, own := fun k x hx => ⟨HA.kept (h.own k x hx).1 fun g hg => ?_, (h.own k x hx).2⟩ }
  · obtain ⟨cs, T, fr, rfl⟩ := h.imc b o' hb
    exact (hne b (hcell (h.im b _ hb))).trans (h.im b _ hb)
  · obtain ⟨cs, T, hc⟩ := HA.cells_of (h.own k x hx).1 hg
    exact hne g (hcell hc)

end Go.Proofs.Ythamgiecgilmdaa
