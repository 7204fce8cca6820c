/- Structs of two numbers, and strings, that are the same. -/
import Derived.Test.YthamgiecgilmdaaRbX
namespace Go.Proofs.Ythamgiecgilmdaa
open Go Go.RowKit
section
variable {P : Program} {E : Env} {S : Im} {L : List (Nat × HA)} {l : List (Nat × Value)}
variable {dd : Option Nat} {ty : TypeId} {pos : String} {af : Array Edge} {gd : Option (Nat × Bool)}

theorem run_equalIn_int (d : Nat) {t : TypeId} {k : IntKind} {m n : Int} {w : World} (h : P.underlying t = some (.int k)) : (Op.equalIn (d + 1) t (.int k m) (.int k n)).run P w = .ok (m == n) w := by
  simp [Op.equalIn, run_underlying h]

/-- What a struct of two numbers is. -/
def tInt (P : Program) (t : TypeId) : Option IntKind := (P.underlying t).bind fun | .int k => some k | _ => none
theorem tInt_und {P : Program} {t : TypeId} {k : IntKind} (h : tInt P t = some k) : P.underlying t = some (.int k) := by
  unfold tInt at h
  cases hu : P.underlying t with
  | none => rw [hu] at h; cases h
  | some D =>
    rw [hu] at h
    cases D <;> simp only [Option.bind_some, reduceCtorEq, Option.some.injEq] at h
    subst h; rfl
def twoOk (P : Program) (t : TypeId) (f g : Field) : Bool := f.name != "_" && (g.name != "_" && (Nat.beq f.offset 0 && (Nat.beq g.offset 1 && (!P.stoodInHeld t && (!P.eqGuardType P.depth t && (tAgg P f.type == some false && tAgg P g.type == some false))))))
def twoOf (P : Program) (t : TypeId) : List Field → Option (IntKind × IntKind)
  | [f, g] => if twoOk P t f g = true then (tInt P f.type).bind fun k => (tInt P g.type).bind fun k' => some (k, k') else none
  | _ => none
def tTwo (P : Program) (t : TypeId) : Option (IntKind × IntKind) := (P.underlying t).bind fun | .struct fs => twoOf P t fs.toList | _ => none

theorem run_equal_two {t : TypeId} {k k' : IntKind} {a b c d : Int} {w : World} (h : tTwo P t = some (k, k')) : (Op.equal t (.agg #[.int k a, .int k' b]) (.agg #[.int k c, .int k' d])).run P w = .ok (decide (a = c ∧ b = d)) w ∧ P.eqGuardType P.depth t = false := by
  unfold tTwo at h
  cases hu : P.underlying t with
  | none => rw [hu] at h; cases h
  | some D =>
    rw [hu] at h
    cases D <;> simp only [Option.bind_some, reduceCtorEq] at h
    rename_i fs
    obtain ⟨fl⟩ := fs
    simp only at h
    match fl, h with
    | [f, g], h =>
      unfold twoOf at h
      simp only at h
      by_cases hc : twoOk P t f g = true
      · rw [if_pos hc] at h
        simp only [twoOk, Bool.and_eq_true, bne_iff_ne, Bool.not_eq_true', beq_iff_eq] at hc
        obtain ⟨h1, h2, h3, h4, h5, h6, h7, h8⟩ := hc
        have h3 := Nat.eq_of_beq_eq_true h3
        have h4 := Nat.eq_of_beq_eq_true h4
        simp only [Option.bind_eq_some_iff] at h
        obtain ⟨q, hf, q', hg, he⟩ := h
        cases he
        have hf := tInt_und hf
        have hg := tInt_und hg
        · refine ⟨?_, h6⟩
          have p1 : ∀ x y : Value, (part f.type #[x, y] f.offset).run P w = .ok x w := fun x y => by simp [part, Sem.run_bind, tAgg_run h7, Result.andThen, h3, Sem.run_pure]
          have p2 : ∀ x y : Value, (part g.type #[x, y] g.offset).run P w = .ok y w := fun x y => by simp [part, Sem.run_bind, tAgg_run h8, Result.andThen, h4, Sem.run_pure]
          have e1 : ∀ n, (Op.equalIn (n + 1) f.type (.int k a) (.int k c)).run P w = .ok (a == c) w := fun n => run_equalIn_int n hf
          have e2 : ∀ n, (Op.equalIn (n + 1) g.type (.int k' b) (.int k' d)).run P w = .ok (b == d) w := fun n => run_equalIn_int n hg
          have hp : (program).run P w = .ok P w := rfl
          have key : ∀ n, (Op.equalIn ((n + 1) + 1) t (.agg #[.int k a, .int k' b]) (.agg #[.int k c, .int k' d])).run P w = .ok (decide (a = c ∧ b = d)) w := by
            intro n
            unfold Op.equalIn
            generalize hD : Op.equalIn (n + 1) = EQ at *
            have e1' := e1 n
            have e2' := e2 n
            rw [hD] at e1' e2'
            clear e1 e2
            by_cases ha : a = c
            · subst ha
              by_cases hb : b = d
              · subst hb
                simp [run_underlying hu, Sem.run_bind, Result.andThen, hp, h5, h1, h2, p1, p2, e1', e2', Sem.run_pure]
              · simp [run_underlying hu, Sem.run_bind, Result.andThen, hp, h5, h1, h2, p1, p2, e1', e2', hb, Sem.run_pure]
            · simp [run_underlying hu, Sem.run_bind, Result.andThen, hp, h5, h1, h2, p1, p2, e1', e2', ha, Sem.run_pure]
          exact key 9998
      · rw [if_neg hc] at h; cases h
    | [], h => cases h
    | [_], h => cases h
    | _ :: _ :: _ :: _, h => cases h

theorem pv_eq2 {t ut : TypeId} {x y : Operand} {k k' : IntKind} {a b c d : Int} (hx : ev l x = some (.agg #[.int k a, .int k' b])) (hy : ev l y = some (.agg #[.int k c, .int k' d])) (ht : tTwo P t = some (k, k')) :
    PV P E S L l ⟨dd, .binOp .eql t x y ut, ty, pos, af, gd⟩ (.bool (decide (a = c ∧ b = d))) :=
  pv_of (fun a' w h => by
    obtain ⟨h1, h2⟩ := run_equal_two (P := P) (w := w) (a := a) (b := b) (c := c) (d := d) ht
    have hp : (program).run P w = .ok P w := rfl
    have e : (eqGuard .eql t x y (.agg #[.int k a, .int k' b]) (.agg #[.int k c, .int k' d])).run P w = .ok () w := by
      simp [eqGuard, Sem.run_bind, hp, Result.andThen, h2, Sem.run_pure]
    simp [execOp, h.ev hx, h.ev hy, Sem.run_bind, e, binOp, h1, Result.andThen, Sem.run_pure])
theorem pv_ne2 {t ut : TypeId} {x y : Operand} {k k' : IntKind} {a b c d : Int} (hx : ev l x = some (.agg #[.int k a, .int k' b])) (hy : ev l y = some (.agg #[.int k c, .int k' d])) (ht : tTwo P t = some (k, k')) :
    PV P E S L l ⟨dd, .binOp .neq t x y ut, ty, pos, af, gd⟩ (.bool (decide ¬ (a = c ∧ b = d))) :=
  pv_of (fun a' w h => by
    obtain ⟨h1, h2⟩ := run_equal_two (P := P) (w := w) (a := a) (b := b) (c := c) (d := d) ht
    have hp : (program).run P w = .ok P w := rfl
    have e : (eqGuard .neq t x y (.agg #[.int k a, .int k' b]) (.agg #[.int k c, .int k' d])).run P w = .ok () w := by
      simp [eqGuard, Sem.run_bind, hp, Result.andThen, h2, Sem.run_pure]
    simp only [execOp, h.ev hx, h.ev hy, Sem.run_bind, e, binOp, h1, Result.andThen, Sem.run_pure, decide_not])

theorem strB_toList : ∀ (bs : List Int) (r : ByteArray), (bs.foldl (fun r n => r.push (UInt8.ofNat n.toNat)) r).data.toList = r.data.toList ++ bs.map (fun n => UInt8.ofNat n.toNat)
  | [], r => by simp
  | b :: bs, r => by rw [List.foldl_cons, strB_toList bs]; simp [ByteArray.push]
theorem strB_data (bs : List Int) : (strB bs).data.toList = bs.map (fun n => UInt8.ofNat n.toNat) := by
  unfold strB; rw [strB_toList]; rfl

theorem strB_inj {xs ys : List Int} (hx : ∀ x ∈ xs, InR .u8 x) (hy : ∀ x ∈ ys, InR .u8 x) (h : strB xs = strB ys) : xs = ys := by
  have h2 : xs.map (fun n => UInt8.ofNat n.toNat) = ys.map (fun n => UInt8.ofNat n.toNat) := by rw [← strB_data, ← strB_data, h]
  clear h
  induction xs generalizing ys with
  | nil => cases ys with
    | nil => rfl
    | cons y ys => simp at h2
  | cons x xs ih => cases ys with
    | nil => simp at h2
    | cons y ys =>
      simp only [List.map_cons, List.cons.injEq] at h2
      have a := (hx x (by simp)).u8
      have b := (hy y (by simp)).u8
      have e : x = y := by
        have := congrArg UInt8.toNat h2.1
        simp only [UInt8.toNat_ofNat'] at this
        omega
      rw [e, ih (fun z hz => hx z (by simp [hz])) (fun z hz => hy z (by simp [hz])) h2.2]

theorem toList_inj {a b : ByteArray} (h : a.data.toList = b.data.toList) : a = b := by
  obtain ⟨⟨a⟩⟩ := a
  obtain ⟨⟨b⟩⟩ := b
  simp at h; rw [h]

theorem pv_eqlstr {t ut : TypeId} {x y : Operand} {xs ys : List Int} (hx : ev l x = some (.string (strB xs))) (hy : ev l y = some (.string (strB ys))) (h1 : ∀ x ∈ xs, InR .u8 x) (h2 : ∀ x ∈ ys, InR .u8 x) :
    PV P E S L l ⟨dd, .binOp .eql t x y ut, ty, pos, af, gd⟩ (.bool (decide (xs = ys))) := by
  have := pv_eqls (P := P) (E := E) (S := S) (L := L) (dd := dd) (ty := ty) (pos := pos) (af := af) (gd := gd) (t := t) (ut := ut) hx hy
  have e : ((strB xs).toList == (strB ys).toList) = decide (xs = ys) := by
    by_cases h : xs = ys
    · subst h; simp
    · rw [decide_eq_false h, beq_eq_false_iff_ne]
      intro e
      exact h (strB_inj h1 h2 (ByteArray.ext (Array.ext' (by rw [← ByteArray.toList_eq, ← ByteArray.toList_eq]; exact e))))
  rw [e] at this
  exact this
theorem pv_neqstr {t ut : TypeId} {x y : Operand} {xs ys : List Int} (hx : ev l x = some (.string (strB xs))) (hy : ev l y = some (.string (strB ys))) (h1 : ∀ x ∈ xs, InR .u8 x) (h2 : ∀ x ∈ ys, InR .u8 x) :
    PV P E S L l ⟨dd, .binOp .neq t x y ut, ty, pos, af, gd⟩ (.bool (decide (xs ≠ ys))) :=
  pv_of (fun a w h => by
    have e : (eqGuard .neq t x y (.string (strB xs)) (.string (strB ys))).run P w = .ok () w := rfl
    have e2 : ((strB xs).toList == (strB ys).toList) = decide (xs = ys) := by
      by_cases h : xs = ys
      · subst h; simp
      · rw [decide_eq_false h, beq_eq_false_iff_ne]
        intro e
        exact h (strB_inj h1 h2 (ByteArray.ext (Array.ext' (by rw [← ByteArray.toList_eq, ← ByteArray.toList_eq]; exact e))))
    simp [execOp, h.ev hx, h.ev hy, Sem.run_bind, e, binOp_string_neq, Result.andThen, Sem.run, e2])
end
end Go.Proofs.Ythamgiecgilmdaa
