/- How what comes in is opened: a reading as data gives the kinds' facts, over all that the heap holds. -/
import Derived.Test.YthamgiecgilmdaaRbE
import Derived.Deep.Slices
import Derived.ProofKit
import Derived.OpenShut
import Derived.ShutString
import Derived.ChangeOld
import Derived.Below
import Derived.Carry
namespace Go.Proofs.Ythamgiecgilmdaa
open Go Go.RowKit Go.ChangeShapes Go.WideShapes

/-- All that the heap holds in cells. -/
def imOf (w : World) : Im := fun b => match w.heap[b]? with | some (.cells cs T fr) => some (.cells cs T fr) | _ => none

theorem imOf_im {w : World} {b : Nat} {o : Obj} (h : imOf w b = some o) : w.heap[b]? = some o := by
  unfold imOf at h
  split at h
  · rename_i cs T fr e; rw [e, ← h]
  · cases h
theorem imOf_cells {w : World} {b : Nat} {o : Obj} (h : imOf w b = some o) : ∃ cs T fr, o = .cells cs T fr := by
  unfold imOf at h
  split at h
  · cases h; exact ⟨_, _, _, rfl⟩
  · cases h
theorem imOf_of {w : World} {b : Nat} {cs : Array Value} {T : TypeId} {fr : Nat × Nat} (h : w.heap[b]? = some (.cells cs T fr)) : imOf w b = some (.cells cs T fr) := by
  unfold imOf; rw [h]

/-- Where the memory of a call starts. -/
theorem Hp.start (w : World) : Hp ⟨0, w, CL [], imOf w⟩ (imOf w) (kx 0 []) w :=
  ⟨rfl, rfl, rfl, Nat.le_refl _, fun _ _ _ => rfl, fun _ _ h => imOf_im h, fun _ _ h => imOf_cells h, fun b cs T fr h1 h2 => (by rw [show imOf w b = none from h2] at h1; cases h1), fun _ _ h => h, fun _ _ h => .inl h, fun k h hk => by simp [kx, lk] at hk, fun j k h h' g _ hk => by simp [kx, lk] at hk⟩

theorem Hp.below {w w' : World} {S S' : Im} {L : List (Nat × HA)} (h : Hp ⟨0, w, CL [], S⟩ S' L w') : Below w.heap.size w w' :=
  ⟨h.os, h.tape, h.output, h.size, fun k hk => h.frame k hk (fun ⟨x, hx, _⟩ => by cases hx)⟩

/-- A kind fits a type. -/
def Opn {α : Type} (P : Program) (d : Kd α) (t : TypeId) : Prop := ∀ {H : Type} (enc : TypeId × Value → H) (w : World) (base : Nat) (spare : Nat → Bool) (held : Bool) (fuel : Nat) (cs : List Value) (x : DataW H × List MemPlace),
  DataW.trod enc P w base spare held fuel t cs = some x → ∃ y, d.K (imOf w) cs y

section
variable {P : Program}

theorem wf_inR {k : IntKind} {n : Int} (h : (Lit.int k n).wf = true) : InR k n := by
  unfold InR
  cases k <;> (simp only [Lit.wf, Bool.and_eq_true, decide_eq_true_eq] at h; unfold IntKind.wrap; simp [IntKind.bits, IntKind.signed, IntKind.min, IntKind.max] at h ⊢ <;> omega)

theorem opn_int {t : TypeId} {k : IntKind} (ht : P.underlying t = some (.int k)) : Opn P (kInt k) t := by
  intro H enc w base spare held fuel cs x h
  obtain ⟨n, rfl, _, hw⟩ := DataW.trod_int ht h
  exact ⟨n, rfl, wf_inR hw⟩
theorem opn_bool {t : TypeId} (ht : P.underlying t = some .bool) : Opn P kBool t := by
  intro H enc w base spare held fuel cs x h
  obtain ⟨n, rfl, _⟩ := DataW.trod_bool ht h
  exact ⟨n, rfl⟩

theorem rdl_of {α : Type} {d : Kd α} {S : Im} : ∀ (n : Nat) (cells : List Value), (∀ i, i < n → ∃ x, d.K S ((cells.drop (i * d.sz)).take d.sz) x) → ∃ xs : List α, xs.length = n ∧ RdL d S cells xs
  | 0, _, _ => ⟨[], rfl, trivial⟩
  | n + 1, cells, h => by
    obtain ⟨x, hx⟩ := h 0 (by omega)
    obtain ⟨xs, hl, hr⟩ := rdl_of n (cells.drop d.sz) fun i hi => by
      obtain ⟨y, hy⟩ := h (i + 1) (by omega)
      rw [show (i + 1) * d.sz = d.sz + i * d.sz by rw [Nat.add_mul]; omega, ← List.drop_drop] at hy
      exact ⟨y, hy⟩
    exact ⟨x :: xs, by simp [hl], by simpa using hx, hr⟩

theorem cells_take {w : World} {base n : Nat} {a : Addr} {us : List Value} (h : w.cells? base a n = some us) (hn : 0 < n) : a.spot = none ∧ ∃ cs T fr, w.heap[a.block]? = some (.cells cs T fr) ∧ us = (cs.toList.drop a.off).take n := by
  obtain ⟨_, hl, hc⟩ := World.cells?_some h
  have h0 := hc 0 hn
  have hu0 : us[0]? = some us[0] := List.getElem?_eq_getElem (by omega)
  rw [hu0, show a.add 0 = a by simp [Addr.add]] at h0
  unfold World.cell? at h0
  split at h0
  · rename_i cs T fr hb
    split at h0
    · cases h0
    · rename_i hs
      have hs : a.spot = none := by simpa using hs
      refine ⟨hs, cs, T, fr, hb, ?_⟩
      apply List.ext_getElem?
      intro i
      by_cases hi : i < n
      · have h1 := hc i hi
        rw [← h1, List.getElem?_take_of_lt hi, List.getElem?_drop]
        obtain ⟨b, o, s⟩ := a
        simp only at hs hb; subst hs
        simp [World.cell?, addp, hb]
      · rw [List.getElem?_eq_none (by omega), List.getElem?_eq_none (by rw [List.length_take]; omega)]
  · cases h0

theorem opn_slice {α : Type} {d : Kd α} {t e : TypeId} (ht : P.underlying t = some (.slice e)) (hc : P.cellsOf e = d.sz) (h0 : 0 < d.sz) (he : Opn P d e) : Opn P (kSl d) t := by
  intro H enc w base spare held fuel cs x h
  rcases Deep.open_slice ht h with ⟨rfl, _⟩ | ⟨a, len, cap, m, n, D, Pl, rfl, hb, hlc, hcm, hm, _, hx⟩
  · exact ⟨[], none, 0, rfl, RdA.nil d _⟩
  · have hlm : len ≤ m := by rw [hm]; split <;> omega
    by_cases hz : len = 0
    · subst hz
      exact ⟨[], some a, cap, rfl, by simp, hcm, (fun h => by cases h), .inl rfl⟩
    · obtain ⟨cs0, hcs0, _⟩ := hx 0 (by omega)
      rw [hc] at hcs0
      obtain ⟨hs, cs, T, fr, hb0, _⟩ := cells_take hcs0 h0
      rw [Nat.zero_mul] at hs hb0
      have ha0 : a.add 0 = a := by simp [Addr.add]
      rw [ha0] at hs hb0
      obtain ⟨bk, o, sp⟩ := a
      simp only at hs hb0; subst hs
      obtain ⟨xs, hl, hr⟩ := rdl_of (d := d) (S := imOf w) len (cs.toList.drop o) fun i hi => by
        obtain ⟨us, hus, hu⟩ := hx i (by omega)
        rw [hc] at hus
        obtain ⟨_, cs', T', fr', hb', hu'⟩ := cells_take hus h0
        rw [addp] at hb' hu'
        simp only at hb' hu'
        rw [hb0] at hb'; cases hb'
        obtain ⟨y, hy⟩ := he enc w base spare held _ _ _ hu
        rw [hu'] at hy
        rw [List.drop_drop]
        exact ⟨y, hy⟩
      subst hl
      exact ⟨xs, some ⟨bk, o, none⟩, cap, rfl, hlc, hcm, fun h => (by cases h), .inr ⟨bk, o, cs, T, fr, rfl, imOf_of hb0, hr⟩⟩

/-- A field of a struct's reading. -/
theorem opn_fld {H : Type} {enc : TypeId × Value → H} {w : World} {base : Nat} {spare : Nat → Bool} {held : Bool} {fuel : Nat} {cs : List Value} {x : DataW H × List MemPlace} {t ft : TypeId} {i o s : Nat} {α : Type} {d : Kd α}
    (h : DataW.trod enc P w base spare held fuel t cs = some x) (hf : tFld P t i = some (o, ft, s)) (he : Opn P d ft) : ∃ y, d.K (imOf w) ((cs.drop o).take s) y := by
  obtain ⟨fs, f, hu, hfi, rfl, rfl, hs⟩ := tFld_und hf
  obtain ⟨xs, n, _, _, _, hxl, hx⟩ := DataW.trod_struct hu h
  have h1 := hx i f hfi
  have hi : i < xs.length := by rw [hxl]; exact (Array.getElem?_eq_some_iff.1 hfi).1
  rw [List.getElem?_eq_getElem hi] at h1
  have hc : P.cellsOf f.type = s := by
    obtain ⟨ti, h2, h3⟩ := tSz_info hs
    simp [Program.cellsOf, h2, h3]
  rw [hc] at h1
  exact he enc w base spare held _ _ _ h1
theorem opn_len {H : Type} {enc : TypeId × Value → H} {w : World} {base : Nat} {spare : Nat → Bool} {held : Bool} {fuel : Nat} {cs : List Value} {x : DataW H × List MemPlace} {t ft : TypeId} {i o s n : Nat}
    (h : DataW.trod enc P w base spare held fuel t cs = some x) (hf : tFld P t i = some (o, ft, s)) (hs : tSz P t = some n) : cs.length = n := by
  obtain ⟨fs, f, hu, _⟩ := tFld_und hf
  obtain ⟨xs, m, _, _, hl, _⟩ := DataW.trod_struct hu h
  rw [hl]
  obtain ⟨ti, h2, h3⟩ := tSz_info hs
  simp [Program.cellsOf, h2, h3]
end
end Go.Proofs.Ythamgiecgilmdaa
