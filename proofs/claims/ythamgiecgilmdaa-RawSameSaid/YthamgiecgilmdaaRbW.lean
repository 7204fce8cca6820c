/- The walk's small words: how a code's end meets what is around it; reads by total functions. -/
import Derived.Test.YthamgiecgilmdaaRbK
import Derived.Shelf.Abstract
namespace Go.Proofs.Ythamgiecgilmdaa
open Go Go.RowKit

section
variable {P : Program} {E : Env} {r : Option Nat} {Q : Exit → Act → World → Prop} {S : Im} {L : List (Nat × HA)} {l : List (Nat × Value)} {c d : Code} {id id' : Nat}
variable {σ : Type} {X : σ → Im × List (Nat × HA) × List (Nat × Value)} {p : σ → Prop} {m : σ → Nat} {x : σ}

theorem N_block (h : ∀ a w, St E S L l a w → Q .normal a w) : ∀ a w, St E S L l a w → Exit.inBlock id Q .normal a w := h
theorem X_block (h : ∀ a w, St E S L l a w → Q .normal a w) : ∀ a w, St E S L l a w → Exit.inBlock id Q (.exit id) a w := fun a w hs => by
  simp only [Exit.inBlock, if_true]; exact h a w hs
theorem X_blockne (hne : Nat.beq id id' = false) (h : ∀ a w, St E S L l a w → Q (.exit id) a w) : ∀ a w, St E S L l a w → Exit.inBlock id' Q (.exit id) a w := fun a w hs => by
  have : ¬ id = id' := fun e => by subst e; simp at hne
  have h2 : ¬ id' = id := fun e => this e.symm
  simp only [Exit.inBlock]
  first | (rw [if_neg this]; exact h a w hs) | (rw [if_neg h2]; exact h a w hs)
theorem X_then (h : ∀ a w, St E S L l a w → Q (.exit id) a w) : ∀ a w, St E S L l a w → thn P r d Q (.exit id) a w := h
theorem X_loop (h : ∀ a w, St E S L l a w → Q (.exit id) a w) : ∀ a w, St E S L l a w → lp E X p m x Q (.exit id) a w := h
theorem X_cut {K : Act → World → Prop} (h : ∀ a w, St E S L l a w → Q (.exit id) a w) : ∀ a w, St E S L l a w → Exit.then K Q (.exit id) a w := h
theorem R_block (h : ∀ a w, St E S L l a w → Q .ret a w) : ∀ a w, St E S L l a w → Exit.inBlock id Q .ret a w := h
theorem R_then (h : ∀ a w, St E S L l a w → Q .ret a w) : ∀ a w, St E S L l a w → thn P r d Q .ret a w := h
theorem R_loop (h : ∀ a w, St E S L l a w → Q .ret a w) : ∀ a w, St E S L l a w → lp E X p m x Q .ret a w := h
theorem R_cut {K : Act → World → Prop} (h : ∀ a w, St E S L l a w → Q .ret a w) : ∀ a w, St E S L l a w → Exit.then K Q .ret a w := h
theorem N_next (y : σ) (hp : p y) (hm : m y < m x) (hS : (X y).1 = S) (hL : Sub L (X y).2.1) (hl : Sub l (X y).2.2) : ∀ a w, St E S L l a w → lp E X p m x Q .normal a w :=
  fun a w hs => ⟨y, hp, hm, hs.ag.sub hl, by rw [hS]; exact hs.hp.sub hL, hs.marks⟩
theorem N_cut (y : σ) (hp : p y) (hS : (X y).1 = S) (hL : Sub L (X y).2.1) (hl : Sub l (X y).2.2) : ∀ a w, St E S L l a w → Exit.then (fun a w => ∃ x, p x ∧ St E (X x).1 (X x).2.1 (X x).2.2 a w) Q .normal a w :=
  fun a w hs => ⟨y, hp, hs.ag.sub hl, by rw [hS]; exact hs.hp.sub hL, hs.marks⟩
theorem C_condt {x : Operand} {b : Bool} (hx : ev l x = some (.bool b)) (hb : b = true) (h : C P E r Q S L l c) : C P E r Q S L l (.cond x c d) := C_cond hx (fun _ => h) (fun e => by rw [hb] at e; cases e)
theorem C_condf {x : Operand} {b : Bool} (hx : ev l x = some (.bool b)) (hb : b = false) (h : C P E r Q S L l d) : C P E r Q S L l (.cond x c d) := C_cond hx (fun e => by rw [hb] at e; cases e) (fun _ => h)
end

section
variable {P : Program} {E : Env} {ops : Array Oper} {Q : Exit → Act → World → Prop} {S : Im} {L : List (Nat × HA)} {l : List (Nat × Value)} {rest : List Oper} {o : Oper}
/-- A guard that is not known: both ways. -/
theorem T_gs {dj : Nat} {b : Bool} (hv : lk l dj = some (.bool b)) (y : b = true → T P E ops Q S L l rest) (n : b = false → T P E ops Q S L l rest) : T P E ops Q S L l rest := by
  cases b with
  | true => exact y rfl
  | false => exact n rfl
end

section
variable {S : Im} {A : Option Addr} {c : Nat}
/-- A read by a total function. -/
theorem RdA.intD {k : IntKind} {xs : List Int} (h : RdA (kInt k) S A c xs) {i : Int} (h0 : 0 ≤ i) (h1 : i < xs.length) (L : List (Nat × HA)) : Cell S L (adr A (i.toNat * 1)) (.int k (xs.getD i.toNat 0)) := by
  have hi : xs[i.toNat]? = some (xs.getD i.toNat 0) := by
    rw [List.getD_eq_getElem?_getD, List.getElem?_eq_getElem (by omega)]; rfl
  rw [Nat.mul_one]
  exact (h.int hi).1
theorem RdA.boolD {xs : List Bool} (h : RdA kBool S A c xs) {i : Int} (h0 : 0 ≤ i) (h1 : i < xs.length) (L : List (Nat × HA)) : Cell S L (adr A (i.toNat * 1)) (.bool (xs.getD i.toNat false)) := by
  have hi : xs[i.toNat]? = some (xs.getD i.toNat false) := by
    rw [List.getD_eq_getElem?_getD, List.getElem?_eq_getElem (by omega)]; rfl
  rw [Nat.mul_one]
  exact h.bool hi
theorem RdA.slD {α : Type} {d : Kd α} {xs : List (List α)} (h : RdA (kSl d) S A c xs) {i : Int} (h0 : 0 ≤ i) (h1 : i < xs.length) : ∃ A' c', (∀ L, Cell S L (adr A (i.toNat * 1)) (.slice A' (xs.getD i.toNat []).length c')) ∧ RdA d S A' c' (xs.getD i.toNat []) := by
  have hi : xs[i.toNat]? = some (xs.getD i.toNat []) := by
    rw [List.getD_eq_getElem?_getD, List.getElem?_eq_getElem (by omega)]; rfl
  rw [Nat.mul_one]
  exact h.sl hi
end
end Go.Proofs.Ythamgiecgilmdaa
