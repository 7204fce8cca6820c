/- Rows that are owned and how they read; memory that is new; freezing; strings; small reads. -/
import Derived.Test.YthamgiecgilmdaaRbW
namespace Go.Proofs.Ythamgiecgilmdaa
open Go Go.RowKit

theorem lt_of {a b : Nat} (h : Nat.blt a b = true) : a < b := by simpa [Nat.blt_eq] using h

/-! ### What is new -/
def Im.minus (S' S : Im) : Im := fun b => match S b with | none => S' b | some _ => none

theorem Im.minus_le {S' S : Im} : ImLe (S'.minus S) S' := fun b o h => by
  unfold Im.minus at h
  cases hS : S b with
  | none => rw [hS] at h; exact h
  | some o' => rw [hS] at h; cases h
theorem Im.minus_mono {S1 S2 S : Im} (h : ImLe S1 S2) : ImLe (S1.minus S) (S2.minus S) := fun b o hb => by
  unfold Im.minus at hb ⊢
  cases hS : S b with
  | none => rw [hS] at hb; exact h b o hb
  | some o' => rw [hS] at hb; cases hb
theorem Im.minus_anti {S' S S0 : Im} (h : ImLe S0 S) : ImLe (S'.minus S) (S'.minus S0) := fun b o hb => by
  unfold Im.minus at hb ⊢
  cases hS : S b with
  | none =>
    rw [hS] at hb
    cases h0 : S0 b with
    | none => exact hb
    | some o' => have := h b o' h0; rw [hS] at this; cases this
  | some o' => rw [hS] at hb; cases hb
theorem Im.minus_apart {S' S : Im} {b : Nat} {o : Obj} (h : (S'.minus S) b = some o) : S b = none := by
  unfold Im.minus at h
  cases hS : S b with
  | none => rfl
  | some o' => rw [hS] at h; cases h

/-! ### Rows -/
theorem RdL.ext {α : Type} {d : Kd α} {S : Im} : ∀ {xs : List α} {cs rest : List Value}, RdL d S cs xs → xs.length * d.sz ≤ cs.length → RdL d S (cs ++ rest) xs
  | [], _, _, _, _ => trivial
  | x :: xs, cs, rest, h, hl => by
    have h1 : d.sz + xs.length * d.sz ≤ cs.length := by rw [List.length_cons, Nat.add_mul] at hl; omega
    refine ⟨?_, ?_⟩
    · rw [List.take_append_of_le_length (by omega)]; exact h.1
    · rw [List.drop_append_of_le_length (by omega)]
      exact RdL.ext h.2 (by rw [List.length_drop]; omega)

structure RowOk {α : Type} (d : Kd α) (S : Im) (A : Option Addr) (c : Nat) (cells : List Value) (xs : List α) : Prop where
  rd : RdL d S cells xs
  len : cells.length = xs.length * d.sz
  pl : xs.length = 0 ∧ A = none ∧ c = 0 ∨ ∃ g, A = some ⟨g, 0, none⟩
  bd : xs.length ≤ 9223372036854775807

section
variable {α : Type} {d : Kd α} {S S' : Im} {A : Option Addr} {c : Nat} {cells : List Value} {xs : List α}

theorem RowOk.mono (h : RowOk d S A c cells xs) (hle : ImLe S S') : RowOk d S' A c cells xs := ⟨h.rd.mono hle, h.len, h.pl, h.bd⟩

theorem RdL.ones : ∀ {xs : List α} {cs : List Value}, RdL d S cs xs → cs.length = xs.length * d.sz → ∀ u ∈ cs, u.oneCell' = true
  | [], cs, _, hl, u, hu => by
    have : cs = [] := List.eq_nil_of_length_eq_zero (by simpa using hl)
    subst this; cases hu
  | x :: xs, cs, h, hl, u, hu => by
    have e : cs.length = d.sz + xs.length * d.sz := by rw [hl, List.length_cons, Nat.add_mul]; omega
    rw [← List.take_append_drop d.sz cs] at hu
    rcases List.mem_append.1 hu with hu | hu
    · exact d.one h.1 u hu
    · exact RdL.ones h.2 (by rw [List.length_drop]; omega) u hu

theorem RdA.bd {A : Option Addr} {c : Nat} {xs : List α} (h : RdA d S A c xs) : xs.length ≤ 9223372036854775807 := Nat.le_trans h.1 (Nat.le_trans h.2.1 (by simp [maxLen]))

theorem RowOk.nil (d : Kd α) (S : Im) : RowOk d S none 0 [] [] := ⟨trivial, by simp, .inl ⟨rfl, rfl, rfl⟩, by simp⟩
theorem RowOk.lit0 (d : Kd α) (S : Im) (g : Nat) : RowOk d S (some ⟨g, 0, none⟩) 0 [] [] := ⟨trivial, by simp, .inr ⟨g, rfl⟩, by simp⟩
theorem RowOk.lit1 {S : Im} {us : List Value} {x : α} (g : Nat) (h : d.K S us x) : RowOk d S (some ⟨g, 0, none⟩) 1 us [x] :=
  ⟨⟨by rw [← d.len h, List.take_length]; exact h, trivial⟩, by simp [d.len h], .inr ⟨g, rfl⟩, by simp⟩

/-- A freeze: an owned row is from now on read alone. -/
theorem Hp.freezeRow {E : Env} {L : List (Nat × HA)} {w : World} (h : Hp E S L w) (k : Nat) {n T sz : Nat} (hx : lk L k = some (.row (.slice A n c) T sz n cells)) :
    ∃ S', ImLe S S' ∧ Hp E S' ((k, .gone) :: L) w ∧ ∀ (Sb : Im), ImLe Sb S → ∀ {β : Type} (e : Kd β) (ys : List β), ys.length = n → cells.length = n * e.sz → RdL e (S'.minus Sb) cells ys → RdA e (S'.minus Sb) A c ys := by
  have how : w.ownsRow 0 T sz (.slice A n c) n cells := (h.own k _ hx).1
  rcases how.2 with ⟨e, rfl⟩ | ⟨g, cap, cur, e, hb, hg, hnc, hcm, hcs, htk⟩
  · injection e with e1 e2 e3
    subst e1; subst e3
    refine ⟨S, ImLe.refl S, { h with own := fun j y hy => ?_, apart := fun i j y y' g hij hy hy' hf hf' => ?_ }, fun Sb _ β e ys hn _ _ => ?_⟩
    · by_cases e : j = k
      · subst e; rw [lk_same] at hy; cases hy; exact ⟨trivial, fun g' hg' => by cases hg'⟩
      · rw [lk_ne _ _ e] at hy; exact h.own j y hy
    · by_cases e : i = k
      · subst e; rw [lk_same] at hy; cases hy; cases hf
      · rw [lk_ne _ _ e] at hy
        by_cases e' : j = k
        · subst e'; rw [lk_same] at hy'; cases hy'; cases hf'
        · rw [lk_ne _ _ e'] at hy'; exact h.apart i j y y' g hij hy hy' hf hf'
    · have : ys = [] := List.eq_nil_of_length_eq_zero (by omega)
      subst this
      exact RdA.nil e _
  · injection e with e1 e2 e3
    subst e1; subst e3
    have hS : S g = none := ((h.own k _ hx).2 g rfl).1
    refine ⟨S.put g (.cells cur T (0, 0)), Im.put_le hS, h.freeze k hx rfl hg, fun Sb hle β e ys hn hlen hr => ⟨by omega, hcm, (fun hA => by cases hA), .inr ⟨g, 0, cur, T, (0, 0), rfl, ?_, ?_⟩⟩⟩
    · unfold Im.minus
      cases hb : Sb g with
      | none => simp [Im.put]
      | some o => have := hle g o hb; rw [hS] at this; cases this
    · have hl : cells = cur.toList.take (n * sz) := htk.symm
      have : cur.toList = cells ++ cur.toList.drop (n * sz) := by rw [hl, List.take_append_drop]
      rw [List.drop_zero, this]
      exact hr.ext (by rw [hlen, hn]; exact Nat.le_refl _)

theorem G_freeze {E : Env} {L : List (Nat × HA)} {l : List (Nat × Value)} {Φ : Act → World → Prop} (k : Nat) {n T sz : Nat} (hx : lk L k = some (.row (.slice A n c) T sz n cells))
    (h : ∀ S', ImLe S S' → (∀ (Sb : Im), ImLe Sb S → ∀ {β : Type} (e : Kd β) (ys : List β), ys.length = n → cells.length = n * e.sz → RdL e (S'.minus Sb) cells ys → RdA e (S'.minus Sb) A c ys) → ∀ a w, St E S' ((k, .gone) :: L) l a w → Φ a w) : ∀ a w, St E S L l a w → Φ a w := fun a w hs => by
  obtain ⟨S', h1, h2, h3⟩ := hs.hp.freezeRow k hx
  exact h S' h1 h3 a w ⟨hs.ag, h2, hs.marks⟩
theorem C_freezeRow {P : Program} {E : Env} {r : Option Nat} {Q : Exit → Act → World → Prop} {cd : Code} {L : List (Nat × HA)} {l : List (Nat × Value)} (k : Nat) {n T sz : Nat} (hx : lk L k = some (.row (.slice A n c) T sz n cells))
    (h : ∀ S', ImLe S S' → (∀ (Sb : Im), ImLe Sb S → ∀ {β : Type} (e : Kd β) (ys : List β), ys.length = n → cells.length = n * e.sz → RdL e (S'.minus Sb) cells ys → RdA e (S'.minus Sb) A c ys) → C P E r Q S' ((k, .gone) :: L) l cd) : C P E r Q S L l cd :=
  G_freeze k hx h
theorem T_freezeRow {P : Program} {E : Env} {ops : Array Oper} {Q : Exit → Act → World → Prop} {rest : List Oper} {L : List (Nat × HA)} {l : List (Nat × Value)} (k : Nat) {n T' sz : Nat} (hx : lk L k = some (.row (.slice A n c) T' sz n cells))
    (h : ∀ S', ImLe S S' → (∀ (Sb : Im), ImLe Sb S → ∀ {β : Type} (e : Kd β) (ys : List β), ys.length = n → cells.length = n * e.sz → RdL e (S'.minus Sb) cells ys → RdA e (S'.minus Sb) A c ys) → T P E ops Q S' ((k, .gone) :: L) l rest) : T P E ops Q S L l rest :=
  G_freeze k hx h
theorem A_freezeRow {P : Program} {E : Env} {ops : Array Oper} {Q : Exit → Act → World → Prop} {H : World → Prop} {m : Nat} {listed : Array Bool} {fuel : Nat} {L : List (Nat × HA)} {l : List (Nat × Value)} (k : Nat) {n T' sz : Nat} (hx : lk L k = some (.row (.slice A n c) T' sz n cells))
    (h : ∀ S', ImLe S S' → (∀ (Sb : Im), ImLe Sb S → ∀ {β : Type} (e : Kd β) (ys : List β), ys.length = n → cells.length = n * e.sz → RdL e (S'.minus Sb) cells ys → RdA e (S'.minus Sb) A c ys) → _root_.Go.Proofs.Ythamgiecgilmdaa.A P E ops Q H m S' ((k, .gone) :: L) l listed fuel) : _root_.Go.Proofs.Ythamgiecgilmdaa.A P E ops Q H m S L l listed fuel :=
  G_freeze k hx h

/-- What a row reads as, once it is frozen. -/
theorem RowOk.frozen {Sb S'' : Im} {β : Type} {e : Kd β} {ys : List β} {T : Type} (h : RowOk e (S.minus Sb) A c cells ys) (hle : ImLe S S'') (hb : ImLe Sb S)
    (hz : ∀ (Sb : Im), ImLe Sb S → ∀ {β : Type} (e : Kd β) (zs : List β), zs.length = ys.length → cells.length = ys.length * e.sz → RdL e (S''.minus Sb) cells zs → RdA e (S''.minus Sb) A c zs) : RdA e (S''.minus Sb) A c ys :=
  hz Sb hb e ys rfl h.len (h.rd.mono (Im.minus_mono hle))
end

def im0 : Im := fun _ => none
theorem im0_le (S : Im) : ImLe im0 S := fun _ _ h => by cases h
theorem minus_im0 (S : Im) : S.minus im0 = S := rfl
theorem RowOk.frozen0 {S S'' : Im} {A : Option Addr} {c : Nat} {cells : List Value} {β : Type} {e : Kd β} {ys : List β} (h : RowOk e S A c cells ys) (hle : ImLe S S'')
    (hz : ∀ (Sb : Im), ImLe Sb S → ∀ {β : Type} (e : Kd β) (zs : List β), zs.length = ys.length → cells.length = ys.length * e.sz → RdL e (S''.minus Sb) cells zs → RdA e (S''.minus Sb) A c zs) : RdA e S'' A c ys :=
  hz im0 (im0_le S) e ys rfl h.len (h.rd.mono hle)

/-! ### Elements -/
section
variable {α : Type} [Inhabited α] {d : Kd α} {S : Im} {A : Option Addr} {c : Nat} {cells : List Value} {xs : List α}

theorem getD_some {xs : List α} {i : Int} (h0 : 0 ≤ i) (h1 : i < xs.length) : xs[i.toNat]? = some (xs.getD i.toNat default) := by
  rw [List.getD_eq_getElem?_getD, List.getElem?_eq_getElem (by omega)]; rfl

theorem Cell.mono {S S' : Im} {L : List (Nat × HA)} {ad : Addr} {v : Value} (hle : ImLe S S') (h : Cell S L ad v) : Cell S' L ad v := by
  rcases h with ⟨cs, T, fr, h1, h2, h3⟩ | h | h
  · exact .inl ⟨cs, T, fr, h1, hle _ _ h2, h3⟩
  · exact .inr (.inl h)
  · exact .inr (.inr h)
theorem Cells.mono {S S' : Im} {L : List (Nat × HA)} (hle : ImLe S S') : ∀ {us : List Value} {ad : Addr}, Cells S L ad us → Cells S' L ad us
  | [], _, _ => trivial
  | _ :: _, _, h => ⟨h.1.mono hle, Cells.mono hle h.2⟩

/-- Where an element stands, and what is in its cells. -/
def Elt (S : Im) (L : List (Nat × HA)) (ad : Addr) (us : List Value) : Prop := ad.spot = none ∧ Cells S L ad us
theorem Elt.at_ {S : Im} {L : List (Nat × HA)} {ad : Addr} {us : List Value} (h : Elt S L ad us) (j : Nat) {v : Value} (hv : us[j]? = some v) : Cell S L (ad.add j) v := Cells.get h.1 h.2 j v hv
theorem Elt.zero {S : Im} {L : List (Nat × HA)} {ad : Addr} {us : List Value} (h : Elt S L ad us) {v : Value} (hv : us[0]? = some v) : Cell S L ad v := by
  have := Cells.get h.1 h.2 0 v hv
  rwa [show ad.add 0 = ad by obtain ⟨b, o, s⟩ := ad; have := h.1; simp only at this; subst this; rw [addp]; rfl] at this

theorem addadd {ad : Addr} (h : ad.spot = none) (i j : Nat) : (ad.add i).add j = ad.add (i + j) := by
  obtain ⟨b, o, s⟩ := ad
  simp only at h; subst h
  rw [addp, addp, addp]; congr 1; omega
theorem Cells.part {S : Im} {L : List (Nat × HA)} {ad : Addr} {us : List Value} (hs : ad.spot = none) (h : Cells S L ad us) : ∀ (n j : Nat), Cells S L (ad.add j) ((us.drop j).take n)
  | 0, j => by simp [Cells]
  | n + 1, j => by
    cases hd : us.drop j with
    | nil => simp [Cells]
    | cons v t =>
      refine ⟨Cells.get hs h j v ?_, ?_⟩
      · have : (us.drop j)[0]? = some v := by rw [hd]; rfl
        simpa using this
      · have := Cells.part hs h n (j + 1)
        rw [addadd hs]
        have e : us.drop (j + 1) = t := by rw [← List.drop_drop, hd]; rfl
        rwa [e] at this
theorem Elt.part {S : Im} {L : List (Nat × HA)} {ad : Addr} {us : List Value} (h : Elt S L ad us) (j n : Nat) : Elt S L (ad.add j) ((us.drop j).take n) :=
  ⟨by unfold Addr.add; split <;> simp [h.1], Cells.part h.1 h.2 n j⟩

theorem RdA.elt (h : RdA d S A c xs) {i : Int} (h0 : 0 ≤ i) (h1 : i < xs.length) : ∃ us, d.K S us (xs.getD i.toNat default) ∧ ∀ S' L, ImLe S S' → Elt S' L (adr A (i.toNat * d.sz)) us := by
  obtain ⟨us, hk, hc, hs⟩ := h.at_ (getD_some h0 h1)
  exact ⟨us, hk, fun S' L hle => ⟨hs, (hc L).mono hle⟩⟩

/-- Element i of an owned row. -/
theorem RowOk.elt (h : RowOk d S A c cells xs) {i : Int} (h0 : 0 ≤ i) (h1 : i < xs.length) : ∃ us, d.K S us (xs.getD i.toNat default) ∧ us = (cells.drop (i.toNat * d.sz)).take d.sz ∧
    ∀ S' L key T sz, lk L key = some (.row (.slice A xs.length c) T sz xs.length cells) → Elt S' L (adr A (i.toNat * d.sz)) us := by
  have hk := h.rd.get (getD_some h0 h1)
  refine ⟨_, hk, rfl, fun S' L key T sz hl => ?_⟩
  rcases h.pl with ⟨h2, _⟩ | ⟨g, rfl⟩
  · omega
  · refine ⟨by simp [Go.Proofs.Ythamgiecgilmdaa.adr, addp], ?_⟩
    have : Cells S' L ⟨g, 0, none⟩ cells := by
      have : ∀ (us : List Value) (o : Nat), (∀ j u, us[j]? = some u → cells[o + j]? = some u) → Cells S' L ⟨g, o, none⟩ us := by
        intro us
        induction us with
        | nil => intro o _; trivial
        | cons u us ih =>
          intro o hu
          refine ⟨Cell.row key hl (hu 0 u rfl), ?_⟩
          rw [addp]
          exact ih (o + 1) fun j u' hj => by
            have := hu (j + 1) u' (by simpa using hj)
            rwa [show o + (j + 1) = o + 1 + j by omega] at this
      exact this cells 0 fun j u hj => by simpa using hj
    exact Cells.part (n := d.sz) (j := i.toNat * d.sz) rfl this

end

theorem pv_idxrow {α : Type} {d : Kd α} {S : Im} {A : Option Addr} {c : Nat} {cells : List Value} {xs : List α} {P : Program} {E : Env} {L : List (Nat × HA)} {l : List (Nat × Value)} {dd : Option Nat} {ty : TypeId} {pos : String} {af : Array Edge} {gd : Option (Nat × Bool)} {sz : Nat}
    (hr : RowOk d S A c cells xs) {S' : Im} {t e : TypeId} {x y : Operand} {ik : IntKind} {i : Int} (hx : ev l x = some (.slice A xs.length c)) (hy : ev l y = some (.int ik i)) (ht : tElem P t = some e) (hs : tSz P e = some sz)
    (h0 : 0 ≤ i) (h1 : i < xs.length) : PV P E S' L l ⟨dd, .indexAddr t x y, ty, pos, af, gd⟩ (.pointer (some (adr A (i.toNat * sz)))) := by
  rcases hr.pl with ⟨h2, _⟩ | ⟨g, rfl⟩
  · omega
  · exact pv_indexAddr hx hy ht hs h0 h1

section
variable {α : Type} {d : Kd α} {S S' : Im} {A : Option Addr} {c : Nat} {cells : List Value} {xs : List α}
def putc (cells : List Value) (k : Nat) (us : List Value) : List Value := cells.take k ++ us ++ cells.drop (k + us.length)

theorem putc_length {k : Nat} {us : List Value} (h : k + us.length ≤ cells.length) : (putc cells k us).length = cells.length := by
  simp only [putc, List.length_append, List.length_take, List.length_drop]; omega

theorem RdL.put : ∀ {xs : List α} {cells us : List Value} {i : Nat} {x : α}, RdL d S cells xs → cells.length = xs.length * d.sz → d.K S us x → i < xs.length → RdL d S (putc cells (i * d.sz) us) (xs.set i x)
  | [], _, _, i, x, _, _, _, hi => by simp at hi
  | y :: ys, cells, us, 0, x, h, hl, hk, _ => by
    have hu := d.len hk
    simp only [putc, Nat.zero_mul, List.take_zero, List.nil_append, Nat.zero_add, List.set_cons_zero]
    refine ⟨?_, ?_⟩
    · rw [← hu, List.take_left]; exact hk
    · rw [hu, ← hu, List.drop_left, hu]; exact h.2
  | y :: ys, cells, us, i + 1, x, h, hl, hk, hi => by
    have hu := d.len hk
    have e : cells.length = d.sz + ys.length * d.sz := by rw [hl, List.length_cons, Nat.add_mul]; omega
    have hi' : i < ys.length := by simpa using hi
    have ei : (i + 1) * d.sz = d.sz + i * d.sz := by rw [Nat.add_mul]; omega
    have le : i * d.sz + d.sz ≤ ys.length * d.sz := by
      have := Nat.mul_le_mul_right d.sz (show i + 1 ≤ ys.length from hi')
      rw [Nat.add_mul] at this; omega
    have ep : putc cells ((i + 1) * d.sz) us = cells.take d.sz ++ putc (cells.drop d.sz) (i * d.sz) us := by
      simp only [putc, ei, List.take_add, List.drop_drop, List.append_assoc]
      rw [show d.sz + (i * d.sz + us.length) = d.sz + i * d.sz + us.length by omega]
    rw [ep, List.set_cons_succ]
    have ht : (cells.take d.sz).length = d.sz := by rw [List.length_take]; omega
    refine ⟨?_, ?_⟩
    · have := List.take_left (l₁ := cells.take d.sz) (l₂ := putc (cells.drop d.sz) (i * d.sz) us)
      rw [ht] at this; rw [this]; exact h.1
    · have := List.drop_left (l₁ := cells.take d.sz) (l₂ := putc (cells.drop d.sz) (i * d.sz) us)
      rw [ht] at this; rw [this]
      exact RdL.put h.2 (by rw [List.length_drop]; omega) hk hi'

theorem RowOk.put {us : List Value} {i : Int} {x : α} (h : RowOk d S A c cells xs) (hk : d.K S us x) (h0 : 0 ≤ i) (h1 : i < xs.length) : RowOk d S A c (putc cells (i.toNat * d.sz) us) (xs.set i.toNat x) := by
  have le : i.toNat * d.sz + d.sz ≤ xs.length * d.sz := by
    have := Nat.mul_le_mul_right d.sz (show i.toNat + 1 ≤ xs.length by omega)
    rw [Nat.add_mul] at this; omega
  refine ⟨h.rd.put h.len hk (by omega), ?_, ?_, by rw [List.length_set]; exact h.bd⟩
  · rw [putc_length (by rw [d.len hk, h.len]; exact le), h.len, List.length_set]
  · rw [List.length_set]; exact h.pl

/-- A store into an owned row: any cells of it. -/
theorem op_storeR {P : Program} {E : Env} {L : List (Nat × HA)} {l : List (Nat × Value)} {K : Im → List (Nat × HA) → List (Nat × Value) → Prop} {ty : TypeId} {pos : String} {af : Array Edge} {gd : Option (Nat × Bool)}
    {t : TypeId} {x y : Operand} {k T sz n : Nat} {v : Value} {vs : List Value} (key : Nat) (hA : n = 0 ∧ A = none ∧ c = 0 ∨ ∃ g, A = some ⟨g, 0, none⟩) (hx : ev l x = some (.pointer (some (adr A k)))) (hy : ev l y = some v)
    (hvs : v.cells = vs.toArray) (hs : tSz P t = some vs.length) (h1 : ∀ u ∈ vs, u.oneCell' = true) (hL : lk L key = some (.row (.slice A n c) T sz n cells)) (hn : 0 < n) (hfit : k + vs.length ≤ cells.length)
    (kk : K S ((key, .row (.slice A n c) T sz n (putc cells k vs)) :: L) l) : Op1 P E S L l ⟨none, .store t x y, ty, pos, af, gd⟩ K := by
  intro a w X h hX
  rcases hA with ⟨hA, _⟩ | ⟨g, rfl⟩
  · omega
  have hh : w.ownsRow 0 T sz (.slice (some ⟨g, 0, none⟩) n c) n cells := (h.hp.own key _ hL).1
  obtain ⟨hlen, hor⟩ := hh
  rcases hor with ⟨e, _⟩ | ⟨g', cap, cur, e, hb, hgg, hnc, hcm, hcs, htk⟩
  · cases e
  · injection e with e1 e2 e3
    injection e1 with e1; injection e1 with e1
    subst e1; subst e3
    have hct : cells.length ≤ cur.size := by rw [← htk, List.length_take]; simp; omega
    have hst := run_storeCells_at P g k T vs 0 cur w hgg (by omega) h1
    simp only [Nat.add_zero] at hst
    generalize hcur : (cur.toList.take k ++ vs ++ cur.toList.drop (k + vs.length)).toArray = cur' at hst
    have hsz : cur'.size = cur.size := by
      rw [← hcur]; simp only [List.size_toArray, List.length_append, List.length_take, List.length_drop, Array.length_toList]; omega
    have htk' : cur'.toList.take (n * sz) = putc cells k vs := by
      rw [← hcur]
      have hl : n * sz = cells.length := hlen.symm
      rw [hl]
      have hck : cells = cur.toList.take cells.length := by rw [← hl]; exact htk.symm
      simp only [putc]
      generalize cells.length = m at *
      subst hck
      rw [List.take_append, List.take_append]
      have e1 : (List.take k cur.toList).length = k := by rw [List.length_take, Array.length_toList]; omega
      have e2 : (List.take k cur.toList ++ vs).length = k + vs.length := by rw [List.length_append, e1]
      rw [e1, e2, List.take_take, List.take_take, List.take_of_length_le (show vs.length ≤ m - k by omega), Nat.min_eq_right (by omega : k ≤ m), Nat.min_eq_left (by omega : k ≤ m), List.drop_take]
    have hg := grownBy_setRow w g cur'
    have hh' : (HA.row (.slice (some ⟨g, 0, none⟩) n c) T sz n (putc cells k vs)).holds (w.setRow g cur') := by
      refine ⟨by rw [putc_length hfit]; exact hlen, .inr ⟨g, c, cur', rfl, Nat.zero_le _, setRow_heap w g _ _ T _ hgg, hnc, hcm, by rw [hsz]; exact hcs, htk'⟩⟩
    have h' := h.turn hg key _ (.inr ⟨_, hL, rfl⟩) hh' (fun g' e => .inl e)
    have e2 : adr (some ⟨g, 0, none⟩) k = ⟨g, k, none⟩ := by simp [adr, addp]
    have hr : (execOp a.eval ⟨none, .store t x y, ty, pos, af, gd⟩).run P w = .ok .skip (w.setRow g cur') := by
      simp [execOp, h.ag.ev hx, h.ag.ev hy, e2, Instr.storeAt, Instr.sureAddr, storeVar, Sem.run_bind, tSz_run hs, hvs, Result.andThen, Sem.run, hst]
    unfold Oper.wp
    rw [hr]
    exact hX _ _ _ _ _ kk ⟨h'.ag, h'.hp, h'.marks⟩

/-- What a slice shows that is appended (Sx: the memory at hand; S: where it is read). -/
structure Src (d : Kd α) (Sx S : Im) (L : List (Nat × HA)) (B : Option Addr) (c : Nat) (news : List Value) (ys : List α) : Prop where
  sl : SlC Sx L B ys.length c news
  rd : RdL d S news ys
  len : news.length = ys.length * d.sz

theorem SlC.mono {Sx : Im} {L : List (Nat × HA)} {B : Option Addr} {m c : Nat} {news : List Value} (hle : ImLe S Sx) (h : SlC S L B m c news) : SlC Sx L B m c news := by
  rcases h with h | ⟨ad, h1, h2⟩
  · exact .inl h
  · refine .inr ⟨ad, h1, fun j u hj => ?_⟩
    rcases h2 j u hj with ⟨cs, T, fr, a1, a2, a3⟩ | h | h
    · exact .inl ⟨cs, T, fr, a1, hle _ _ a2, a3⟩
    · exact .inr (.inl h)
    · exact .inr (.inr h)

theorem RdA.src {B : Option Addr} {c : Nat} {ys : List α} (h : RdA d S B c ys) : ∃ news, ∀ Sx L, ImLe S Sx → Src d Sx S L B c news ys := by
  obtain ⟨news, h1, h2, h3, _⟩ := h.slc
  exact ⟨news, fun Sx L hle => ⟨(h1 L).mono hle, h3, h2⟩⟩

theorem RowOk.src {A' : Option Addr} {c' : Nat} {cells' : List Value} {ys : List α} (h : RowOk d S A' c' cells' ys) {Sx : Im} {L : List (Nat × HA)} (key : Nat) {T sz : Nat} (hl : lk L key = some (.row (.slice A' ys.length c') T sz ys.length cells')) : Src d Sx S L A' c' cells' ys := by
  refine ⟨?_, h.rd, h.len⟩
  rcases h.pl with ⟨h0, rfl, rfl⟩ | ⟨g, rfl⟩
  · refine .inl ⟨rfl, h0, rfl, List.eq_nil_of_length_eq_zero (by rw [h.len, h0]; simp)⟩
  · refine .inr ⟨_, rfl, fun j u hj => ?_⟩
    rw [add0]
    exact Cell.row key hl hj

theorem op_appendR {P : Program} {E : Env} {L : List (Nat × HA)} {l : List (Nat × Value)} {K : Im → List (Nat × HA) → List (Nat × Value) → Prop} {dd : Nat} {ty : TypeId} {pos : String} {af : Array Edge} {gd : Option (Nat × Bool)} {Sx : Im}
    {t e : TypeId} {s x : Operand} {B : Option Addr} {c' sz by_ : Nat} {z : Value} {news : List Value} {ys : List α} (hd : dd < E.n) (key : Nat) (hro : RowOk d S A c cells xs) (hsrc : Src d Sx S L B c' news ys) (hs : ev l s = some (.slice A xs.length c)) (hx : ev l x = some (.slice B ys.length c')) (ht : tElem P t = some e) (hsz : tSz P e = some sz)
    (hz : tZero P e = some z) (hzs : z.cells.size = sz) (h0 : 0 < sz) (hb : tBytes P e = some by_) (hdz : d.sz = sz) (hL : lk L key = some (.row (.slice A xs.length c) e sz xs.length cells))
    (b1 : xs.length + ys.length ≤ 9223372036854775807) (b2 : (xs.length + ys.length) * by_ ≤ 140737488355328)
    (k : ∀ A' c' cells', RowOk d S A' c' cells' (xs ++ ys) → K Sx ((key, .row (.slice A' (xs ++ ys).length c') e sz (xs ++ ys).length cells') :: L) ((dd, .slice A' (xs ++ ys).length c') :: l)) :
    Op1 P E Sx L l ⟨some dd, .call ⟨.builtin .append, #[s, x], #[t, t]⟩, ty, pos, af, gd⟩ K := by
  refine op_append hd key hs hx ht hsz hz hzs h0 hb hL hsrc.sl (by rw [hsrc.len, hdz]) (hsrc.rd.ones hsrc.len) b1 b2 fun A' c' _ hA => ?_
  have := k A' c' (cells ++ news) ⟨hro.rd.append hro.len hsrc.rd, by rw [List.length_append, List.length_append, hro.len, hsrc.len, Nat.add_mul], by rw [List.length_append]; exact hA, by rw [List.length_append]; exact b1⟩
  rw [List.length_append] at this
  exact this

theorem C_newNil {P : Program} {E : Env} {r : Option Nat} {Q : Exit → Act → World → Prop} {cd : Code} {L : List (Nat × HA)} {l : List (Nat × Value)} (key : Nat) (e : TypeId) (sz : Nat) (k : C P E r Q S ((key, .row (.slice none 0 0) e sz 0 []) :: L) l cd) : C P E r Q S L l cd := fun a w h => k a w (h.newNil key e sz)
end

theorem C_drawS {P : Program} {E : Env} {Q : Exit → Act → World → Prop} {S : Im} {L : List (Nat × HA)} {l : List (Nat × Value)} {r : Option Nat} {id : Nat} {ol : List Oper} (Sh : Im) (Lh : List (Nat × HA)) (m : Nat) (hm : P.follows .mixedOrders = true) (hd : noDefer ol.toArray = true)
    (h : (∀ b o, E.S0 b = some o → S b = some o) → A P E ol.toArray Q (Hp E Sh Lh) m S L l (Array.replicate ol.length false) ol.length) : C P E r Q S L l (.region id ol.toArray true) := C_draw (Hp E Sh Lh) m hm hd h

theorem pv_load_aggE {P : Program} {E : Env} {S : Im} {L : List (Nat × HA)} {l : List (Nat × Value)} {dd : Option Nat} {ty : TypeId} {pos : String} {af : Array Edge} {gd : Option (Nat × Bool)} {t : TypeId} {x : Operand} {ad : Addr} {cs : List Value}
    (hx : ev l x = some (.pointer (some ad))) (ht : tAgg P t = some true) (hs : tSz P t = some cs.length) (h : Elt S L ad cs) : PV P E S L l ⟨dd, .load t x, ty, pos, af, gd⟩ (.agg cs.toArray) := pv_load_agg hx ht hs h.1 h.2

theorem pv_eqlbd {P : Program} {E : Env} {S : Im} {L : List (Nat × HA)} {l : List (Nat × Value)} {dd : Option Nat} {ty : TypeId} {pos : String} {af : Array Edge} {gd : Option (Nat × Bool)} {t ut : TypeId} {x y : Operand} {m n : Bool}
    (hx : ev l x = some (.bool m)) (hy : ev l y = some (.bool n)) (ht : P.underlying t = some .bool) : PV P E S L l ⟨dd, .binOp .eql t x y ut, ty, pos, af, gd⟩ (.bool (decide (m = n))) := by
  have := pv_eqlb (P := P) (E := E) (S := S) (L := L) (dd := dd) (ty := ty) (pos := pos) (af := af) (gd := gd) (ut := ut) hx hy ht
  rwa [show (m == n) = decide (m = n) by cases m <;> cases n <;> rfl] at this
theorem pv_neqbd {P : Program} {E : Env} {S : Im} {L : List (Nat × HA)} {l : List (Nat × Value)} {dd : Option Nat} {ty : TypeId} {pos : String} {af : Array Edge} {gd : Option (Nat × Bool)} {t ut : TypeId} {x y : Operand} {m n : Bool}
    (hx : ev l x = some (.bool m)) (hy : ev l y = some (.bool n)) (ht : P.underlying t = some .bool) : PV P E S L l ⟨dd, .binOp .neq t x y ut, ty, pos, af, gd⟩ (.bool (decide (m ≠ n))) := by
  have := pv_neqb (P := P) (E := E) (S := S) (L := L) (dd := dd) (ty := ty) (pos := pos) (af := af) (gd := gd) (ut := ut) hx hy ht
  rwa [show (m != n) = decide (m ≠ n) by cases m <;> cases n <;> rfl] at this

theorem A_gs {P : Program} {E : Env} {ops : Array Oper} {Q : Exit → Act → World → Prop} {H : World → Prop} {m : Nat} {S : Im} {L : List (Nat × HA)} {l : List (Nat × Value)} {listed : Array Bool} {fuel : Nat} {dj : Nat} {b : Bool} (hv : lk l dj = some (.bool b))
    (y : b = true → A P E ops Q H m S L l listed fuel) (n : b = false → A P E ops Q H m S L l listed fuel) : A P E ops Q H m S L l listed fuel := by
  cases b with
  | true => exact y rfl
  | false => exact n rfl

/-! ### Numbers -/
theorem InR.i64 {x : Int} (h : InR .i64 x) : -9223372036854775808 ≤ x ∧ x ≤ 9223372036854775807 := by
  unfold InR IntKind.wrap at h
  simp [IntKind.bits, IntKind.signed] at h
  omega
theorem InR.u8 {x : Int} (h : InR .u8 x) : 0 ≤ x ∧ x ≤ 255 := by
  unfold InR IntKind.wrap at h
  simp [IntKind.bits, IntKind.signed] at h
  omega
theorem inR_u8 {x : Int} (h0 : 0 ≤ x) (h1 : x ≤ 255) : InR .u8 x := by
  unfold InR IntKind.wrap
  simp [IntKind.bits, IntKind.signed]
  omega
theorem inR_wrap (k : IntKind) (x : Int) : InR k (IntKind.wrap k x) := by
  cases k <;> (unfold InR IntKind.wrap; simp [IntKind.bits, IntKind.signed] <;> omega)

section
variable {P : Program} {E : Env} {S : Im} {L : List (Nat × HA)} {l : List (Nat × Value)}
variable {dd : Option Nat} {ty : TypeId} {pos : String} {af : Array Edge} {gd : Option (Nat × Bool)}
theorem pv_eqi {t ut : TypeId} {x y : Operand} {k1 : IntKind} {m n : Int} (hx : ev l x = some (.int k1 m)) (hy : ev l y = some (.int k1 n)) :
    PV P E S L l ⟨dd, .binOp .eql t x y ut, ty, pos, af, gd⟩ (.bool (decide (m = n))) := pv_eql hx hy
theorem pv_nei {t ut : TypeId} {x y : Operand} {k1 : IntKind} {m n : Int} (hx : ev l x = some (.int k1 m)) (hy : ev l y = some (.int k1 n)) :
    PV P E S L l ⟨dd, .binOp .neq t x y ut, ty, pos, af, gd⟩ (.bool (decide (m ≠ n))) := by
  have := pv_neq (P := P) (E := E) (S := S) (L := L) (dd := dd) (ty := ty) (pos := pos) (af := af) (gd := gd) (t := t) (ut := ut) hx hy
  rw [show (m != n) = decide (m ≠ n) by cases h : decide (m = n) <;> simp_all [bne]] at this
  exact this
end

theorem pv_addw {P : Program} {E : Env} {S : Im} {L : List (Nat × HA)} {l : List (Nat × Value)} {dd : Option Nat} {ty : TypeId} {pos : String} {af : Array Edge} {gd : Option (Nat × Bool)} {t ut : TypeId} {x y : Operand} {k1 : IntKind} {m n : Int} (hx : ev l x = some (.int k1 m)) (hy : ev l y = some (.int k1 n)) :
    PV P E S L l ⟨dd, .binOp .add t x y ut, ty, pos, af, gd⟩ (.int k1 (IntKind.wrap k1 (m + n))) := pv_arith hx hy (fun w => by simp [Op.intArith, Sem.run]) (.inl rfl)

theorem G_newNil {E : Env} {S : Im} {L : List (Nat × HA)} {l : List (Nat × Value)} {Φ : Act → World → Prop} (key : Nat) (e : TypeId) (sz : Nat) (k : ∀ a w, St E S ((key, .row (.slice none 0 0) e sz 0 []) :: L) l a w → Φ a w) : ∀ a w, St E S L l a w → Φ a w := fun a w h => k a w (h.newNil key e sz)
theorem A_newNil {P : Program} {E : Env} {ops : Array Oper} {Q : Exit → Act → World → Prop} {H : World → Prop} {m : Nat} {listed : Array Bool} {fuel : Nat} {S : Im} {L : List (Nat × HA)} {l : List (Nat × Value)} (key : Nat) (e : TypeId) (sz : Nat)
    (k : A P E ops Q H m S ((key, .row (.slice none 0 0) e sz 0 []) :: L) l listed fuel) : A P E ops Q H m S L l listed fuel := G_newNil key e sz k

theorem RdA.isNone {α : Type} {d : Kd α} {S : Im} {A : Option Addr} {c : Nat} {xs : List α} (h : RdA d S A c xs) (hA : Option.isNone A = true) : xs = [] := by
  have h1 := h.1
  have h3 := h.2.2.1 (by cases A <;> simp_all)
  exact List.eq_nil_of_length_eq_zero (by omega)

/-! ### Lists that are the same -/
theorem eqL_len {α : Type} [DecidableEq α] {a b : List α} (h : (a.length : Int) ≠ b.length) : false = decide (a = b) := by
  symm; rw [decide_eq_false_iff_not]; intro e; subst e; exact h rfl
theorem eqL_at {α : Type} [Inhabited α] [DecidableEq α] {a b : List α} {i : Int} (h : ¬ a.getD i.toNat default = b.getD i.toNat default) : false = decide (a = b) := by
  symm; rw [decide_eq_false_iff_not]; intro e; subst e; exact h rfl
theorem eqL_all {α : Type} [DecidableEq α] {a b : List α} {i : Int} (hl : a.length = b.length) (hi : (a.length : Int) ≤ i) (h : a.take i.toNat = b.take i.toNat) : true = decide (a = b) := by
  symm; rw [decide_eq_true_iff]
  rw [List.take_of_length_le (by omega), List.take_of_length_le (by omega)] at h
  exact h
theorem take_getD {α : Type} [Inhabited α] {a : List α} {i : Int} (h0 : 0 ≤ i) (h1 : i < a.length) : a.take (i + 1).toNat = a.take i.toNat ++ [a.getD i.toNat default] := by
  have e : (i + 1).toNat = i.toNat + 1 := by omega
  rw [e, List.take_add_one, getD_some h0 h1]; rfl
theorem eqL_next {α : Type} [Inhabited α] {a b : List α} {i : Int} (hl : a.length = b.length) (h0 : 0 ≤ i) (h1 : i < a.length) (h : a.take i.toNat = b.take i.toNat) (he : a.getD i.toNat default = b.getD i.toNat default) : a.take (i + 1).toNat = b.take (i + 1).toNat := by
  rw [take_getD h0 h1, take_getD h0 (by omega), h, he]

/-! ### Elements that hang on no memory; what was put anew -/
section
variable {α : Type} {d : Kd α} {S S' : Im} {A : Option Addr} {c : Nat} {cells : List Value} {xs : List α}
theorem RdL.any (hd : ∀ S S' cs x, d.K S cs x → d.K S' cs x) : ∀ {xs : List α} {cs : List Value}, RdL d S cs xs → RdL d S' cs xs
  | [], _, _ => trivial
  | _ :: _, _, h => ⟨hd _ _ _ _ h.1, RdL.any hd h.2⟩
theorem RowOk.any (hd : ∀ S S' cs x, d.K S cs x → d.K S' cs x) (h : RowOk d S A c cells xs) : RowOk d S' A c cells xs := ⟨h.rd.any hd, h.len, h.pl, h.bd⟩

theorem set_getD [Inhabited α] {i : Int} (h0 : 0 ≤ i) (h1 : i < xs.length) : xs.set i.toNat (xs.getD i.toNat default) = xs := by
  have hi : i.toNat < xs.length := by omega
  have : xs.getD i.toNat default = xs[i.toNat] := by rw [List.getD_eq_getElem?_getD, List.getElem?_eq_getElem hi]; rfl
  rw [this, List.set_getElem_self]

theorem RowOk.putsame [Inhabited α] {us : List Value} {i : Int} (h : RowOk d S A c (putc cells (i.toNat * d.sz) us) (xs.set i.toNat (xs.getD i.toNat default))) (h0 : 0 ≤ i) (h1 : i < xs.length) : RowOk d S A c (putc cells (i.toNat * d.sz) us) xs := by
  rw [set_getD h0 h1] at h; exact h

theorem RdL.pre [Inhabited α] {us : List Value} {i : Int} (h : RdL d S (cells.take (i.toNat * d.sz)) (xs.take i.toNat)) (hl : cells.length = xs.length * d.sz) (hk : d.K S us (xs.getD i.toNat default)) (h0 : 0 ≤ i) (h1 : i < xs.length) :
    RdL d S ((putc cells (i.toNat * d.sz) us).take ((i + 1).toNat * d.sz)) (xs.take (i + 1).toNat) := by
  have hu := d.len hk
  have le : i.toNat * d.sz + d.sz ≤ xs.length * d.sz := by
    have := Nat.mul_le_mul_right d.sz (show i.toNat + 1 ≤ xs.length by omega)
    rw [Nat.add_mul] at this; omega
  have e1 : (i + 1).toNat * d.sz = i.toNat * d.sz + d.sz := by rw [show (i + 1).toNat = i.toNat + 1 by omega, Nat.add_mul]; omega
  have e2 : (putc cells (i.toNat * d.sz) us).take (i.toNat * d.sz + d.sz) = cells.take (i.toNat * d.sz) ++ us := by
    have hlen : (cells.take (i.toNat * d.sz) ++ us).length = i.toNat * d.sz + d.sz := by rw [List.length_append, List.length_take, hu]; omega
    unfold putc
    rw [← hlen, List.take_left]
  have e3 : xs.take (i + 1).toNat = xs.take i.toNat ++ [xs.getD i.toNat default] := by
    rw [show (i + 1).toNat = i.toNat + 1 by omega, List.take_add_one, getD_some h0 h1]; rfl
  rw [e1, e2, e3]
  exact (h.snoc (by rw [List.length_take, List.length_take, hl, Nat.min_eq_left (by omega), Nat.min_eq_left (by omega)]) hk).1

theorem RowOk.whole {i : Int} (h : RowOk d S A c cells xs) (hp : RdL d S' (cells.take (i.toNat * d.sz)) (xs.take i.toNat)) (h0 : 0 ≤ i) (hi : (xs.length : Int) ≤ i) : RowOk d S' A c cells xs := by
  have e1 : cells.take (i.toNat * d.sz) = cells := List.take_of_length_le (by rw [h.len]; exact Nat.mul_le_mul_right _ (by omega))
  have e2 : xs.take i.toNat = xs := List.take_of_length_le (by omega)
  rw [e1, e2] at hp
  exact ⟨hp, h.len, h.pl, h.bd⟩
end

theorem Src.any {α : Type} {d : Kd α} {Sx S S' : Im} {L : List (Nat × HA)} {B : Option Addr} {c : Nat} {news : List Value} {ys : List α} (hd : ∀ S S' cs x, d.K S cs x → d.K S' cs x) (h : Src d Sx S L B c news ys) : Src d Sx S' L B c news ys := ⟨h.sl, h.rd.any hd, h.len⟩
theorem take_snoc {α : Type} [Inhabited α] {xs : List α} {i : Int} (h0 : 0 ≤ i) (h1 : i < xs.length) : xs.take i.toNat ++ [xs.getD i.toNat default] = xs.take (i + 1).toNat := by
  rw [show (i + 1).toNat = i.toNat + 1 by omega, List.take_add_one, getD_some h0 h1]; rfl
theorem take_all {α : Type} {xs : List α} {i : Int} (hi : (xs.length : Int) ≤ i) : xs.take i.toNat = xs := List.take_of_length_le (by omega)

theorem fold_put : ∀ (cs pre post : List Value) , (cs.zipIdx pre.length).foldl (fun (a : Array Value) (x : Value × Nat) => a.setIfInBounds x.2 x.1) (pre ++ post).toArray = (pre ++ cs ++ post.drop cs.length).toArray ∨ post.length < cs.length
  | [], pre, post => .inl (by simp)
  | c :: cs, pre, [] => .inr (by simp)
  | c :: cs, pre, p :: post => by
    have h := fold_put cs (pre ++ [c]) post
    rcases h with h | h
    · left
      rw [List.zipIdx_cons, List.foldl_cons]
      have e : (pre ++ p :: post).toArray.setIfInBounds pre.length c = (pre ++ [c] ++ post).toArray := by
        apply Array.ext'
        simp
      rw [e]
      have e2 : (pre ++ [c]).length = pre.length + 1 := by simp
      rw [e2] at h
      rw [h]; simp
    · right; simpa using h
theorem fill_one {v : Value} {cs : List Value} {z : Array Value} {sz : Nat} (hv : v.cells = cs.toArray) (hl : cs.length = sz) (hz : z.size = sz) : Instr.fill (fun i => some (i * sz, sz)) z [(0, v)] = some cs.toArray := by
  have h := fold_put cs [] z.toList
  simp only [List.nil_append, List.length_nil] at h
  rcases h with h | h
  · have e : List.drop cs.length z.toList = [] := List.drop_of_length_le (by simp; omega)
    rw [e, List.append_nil] at h
    unfold Instr.fill
    simp only [hv, List.size_toArray, hl, hz]
    simp [Instr.fill]
    rw [← h]
  · simp at h; omega

/-- A literal of one element. -/
theorem op_buildSlice1 {P : Program} {E : Env} {S : Im} {L : List (Nat × HA)} {l : List (Nat × Value)} {K : Im → List (Nat × HA) → List (Nat × Value) → Prop} {d : Nat} {ty : TypeId} {pos : String} {af : Array Edge} {gd : Option (Nat × Bool)}
    {t e : TypeId} {sz : Nat} {x : Operand} {z v : Value} {cs : List Value} (hd : d < E.n) (key : Nat) (hv : ev l x = some v) (hcs : v.cells = cs.toArray) (ht : tElem P t = some e) (hs : tSz P e = some sz) (hz : tZero P e = some z) (h0 : 0 < sz) (hbig : sz ≤ 2 ^ 24) (hlen : cs.length = sz)
    (k : ∀ g, K S ((key, .row (.slice (some ⟨g, 0, none⟩) 1 1) e sz 1 cs) :: L) ((d, .slice (some ⟨g, 0, none⟩) 1 1) :: l)) : Op1 P E S L l ⟨some d, .buildSlice t 1 #[(0, x)], ty, pos, af, gd⟩ K :=
  op_buildSlice (vs := [(0, v)]) (z := z) hd key (by simp [evps, hv]) ht hs hz (by omega) (by simp [maxLen]) (by
    rw [if_neg (by omega)]
    exact fill_one hcs hlen (by rw [size_madeCells]; omega)) (by omega) k

theorem op_appendR0 {α : Type} {d : Kd α} {S : Im} {A : Option Addr} {c : Nat} {cells : List Value} {P : Program} {E : Env} {L : List (Nat × HA)} {l : List (Nat × Value)} {K : Im → List (Nat × HA) → List (Nat × Value) → Prop} {dd : Nat} {ty : TypeId} {pos : String} {af : Array Edge} {gd : Option (Nat × Bool)} {Sx : Im}
    {t e : TypeId} {s x : Operand} {B : Option Addr} {c' sz by_ : Nat} {z : Value} {news : List Value} {ys : List α} (hd : dd < E.n) (key : Nat) (hro : RowOk d S A c cells []) (hsrc : Src d Sx S L B c' news ys) (hs : ev l s = some (.slice A 0 c)) (hx : ev l x = some (.slice B ys.length c')) (ht : tElem P t = some e) (hsz : tSz P e = some sz)
    (hz : tZero P e = some z) (hzs : z.cells.size = sz) (h0 : 0 < sz) (hb : tBytes P e = some by_) (hdz : d.sz = sz) (hL : lk L key = some (.row (.slice A 0 c) e sz 0 cells))
    (b1 : ys.length ≤ 9223372036854775807) (b2 : ys.length * by_ ≤ 140737488355328)
    (k : ∀ A' c' cells', RowOk d S A' c' cells' ys → K Sx ((key, .row (.slice A' ys.length c') e sz ys.length cells') :: L) ((dd, .slice A' ys.length c') :: l)) :
    Op1 P E Sx L l ⟨some dd, .call ⟨.builtin .append, #[s, x], #[t, t]⟩, ty, pos, af, gd⟩ K :=
  op_appendR hd key hro hsrc hs hx ht hsz hz hzs h0 hb hdz hL (by simpa using b1) (by simpa using b2) k

theorem fold_at (off : Nat) : ∀ (cs pre post : List Value) (k : Nat), pre.length = off + k → cs.length ≤ post.length → (cs.zipIdx k).foldl (fun (a : Array Value) (x : Value × Nat) => a.setIfInBounds (off + x.2) x.1) (pre ++ post).toArray = (pre ++ cs ++ post.drop cs.length).toArray
  | [], pre, post, _, _, _ => by simp
  | c :: cs, pre, [], _, _, h => by simp at h
  | c :: cs, pre, p :: post, k, hk, h => by
    have h' := fold_at off cs (pre ++ [c]) post (k + 1) (by simp; omega) (by simpa using h)
    rw [List.zipIdx_cons, List.foldl_cons]
    have e : (pre ++ p :: post).toArray.setIfInBounds (off + k) c = (pre ++ [c] ++ post).toArray := by
      apply Array.ext'
      simp [← hk]
    rw [e, h']; simp

def fillL (place : Nat → Option (Nat × Nat)) : List Value → List (Nat × Value) → Option (List Value)
  | z, [] => some z
  | z, (i, v) :: rest => match place i with
    | none => none
    | some (off, size) => bif Nat.beq v.cells.toList.length size && Nat.ble (off + v.cells.toList.length) z.length then fillL place (putc z off v.cells.toList) rest else none

theorem fill_of_fillL {place : Nat → Option (Nat × Nat)} : ∀ {vs : List (Nat × Value)} {z cs : List Value}, fillL place z vs = some cs → Instr.fill place z.toArray vs = some cs.toArray
  | [], z, cs, h => by simp [fillL] at h; subst h; rfl
  | (i, v) :: rest, z, cs, h => by
    unfold fillL at h
    unfold Instr.fill
    cases hp : place i with
    | none => rw [hp] at h; cases h
    | some q =>
      obtain ⟨off, size⟩ := q
      rw [hp] at h
      simp only at h ⊢
      cases hc : (Nat.beq v.cells.toList.length size && Nat.ble (off + v.cells.toList.length) z.length) with
      | false => rw [hc] at h; cases h
      | true =>
        rw [hc] at h
        simp only [cond_true] at h
        simp only [Bool.and_eq_true, Nat.ble_eq] at hc
        have h1 := Nat.eq_of_beq_eq_true hc.1
        have h2 := hc.2
        generalize hv : v.cells = va at *
        obtain ⟨vl⟩ := va
        simp only at h1 h2 h
        have e : (decide (Array.size ⟨vl⟩ ≠ size) || decide (off + Array.size ⟨vl⟩ > z.toArray.size)) = false := by
          simp only [Bool.or_eq_false_iff, decide_eq_false_iff_not]
          refine ⟨by simpa using h1, by simp; omega⟩
        rw [if_neg (by rw [e]; simp)]
        have hf := fold_at off vl (z.take off) (z.drop off) 0 (by rw [List.length_take]; omega) (by rw [List.length_drop]; omega)
        rw [List.take_append_drop, List.drop_drop] at hf
        have hg : Array.foldl (fun (cs : Array Value) (x : Value × Nat) => cs.setIfInBounds (off + x.2) x.1) z.toArray (Array.zipIdx ⟨vl⟩) = (putc z off vl).toArray := by
          unfold putc
          rw [← hf]
          simp
        have := fill_of_fillL h
        rw [← hg] at this
        exact this

theorem pv_buildL {P : Program} {E : Env} {S : Im} {L : List (Nat × HA)} {l : List (Nat × Value)} {dd : Option Nat} {ty : TypeId} {pos : String} {af : Array Edge} {gd : Option (Nat × Bool)} {t : TypeId} {parts : Array (Nat × Operand)} {zs : Array Value} {pl : List (Nat × Nat)} {vs : List (Nat × Value)} {cs : List Value}
    (hv : evps l parts.toList = some vs) (hz : tZero P t = some (.agg zs)) (hp : tPlaces P t = some pl) (hf : fillL (fun i => pl[i]?) zs.toList vs = some cs) : PV P E S L l ⟨dd, .build t parts, ty, pos, af, gd⟩ (.agg cs.toArray) :=
  pv_build hv hz hp (by
    have := fill_of_fillL hf
    have e : (fun i : Nat => pl[i]?) = (fun i : Nat => pl.toArray[i]?) := by funext i; simp
    rw [e] at this
    exact this)
end Go.Proofs.Ythamgiecgilmdaa
