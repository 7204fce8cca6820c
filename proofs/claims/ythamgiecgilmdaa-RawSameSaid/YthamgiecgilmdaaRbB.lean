/- One lemma for each kind of operation: what it does to the slots and to the owned memory. -/
import Derived.Test.YthamgiecgilmdaaRbA
import Derived.WalkSpells
namespace Go.Proofs.Ythamgiecgilmdaa
open Go Go.RowKit

/-! ### Types as the program tells them -/
def tAgg (P : Program) (t : TypeId) : Option Bool := (P.underlying t).map fun | .struct _ => true | .array _ _ => true | _ => false
def tSz (P : Program) (t : TypeId) : Option Nat := (P.info? t).map (·.size)
def tZero (P : Program) (t : TypeId) : Option Value := (P.info? t).bind (·.zero)
def tBytes (P : Program) (t : TypeId) : Option Nat := (P.info? t).map (·.bytes)
def tElem (P : Program) (t : TypeId) : Option TypeId := (P.underlying t).bind fun | .slice e => some e | _ => none
def tArr (P : Program) (t : TypeId) : Option (Nat × TypeId) := (P.underlying t).bind fun | .array n e => some (n, e) | _ => none
/-- A field: its offset, its type, its size. -/
def tFld (P : Program) (t : TypeId) (i : Nat) : Option (Nat × TypeId × Nat) := (P.underlying t).bind fun | .struct fs => (fs[i]?).bind fun f => (tSz P f.type).map fun s => (f.offset, f.type, s) | _ => none

section
variable {P : Program} {w : World} {t : TypeId}
theorem run_und {d : TypeDesc} (h : P.underlying t = some d) : (underlying t).run P w = .ok d w := by simp [underlying, program, Sem.run_bind, Sem.run, h, Result.andThen, pure]
theorem tAgg_run {b : Bool} (h : tAgg P t = some b) : (isAgg t).run P w = .ok b w := by
  unfold tAgg at h
  cases hu : P.underlying t with
  | none => rw [hu] at h; cases h
  | some d =>
    rw [hu] at h
    simp only [isAgg, Sem.run_bind, run_und hu, Result.andThen]
    cases d <;> simp at h <;> subst h <;> rfl
theorem tSz_run {n : Nat} (h : tSz P t = some n) : (sizeOf t).run P w = .ok n w := by
  unfold tSz at h
  cases hi : P.info? t with
  | none => rw [hi] at h; cases h
  | some i => rw [hi] at h; cases h; simp [sizeOf, typeInfo, program, Sem.run_bind, Sem.run, hi, Result.andThen, pure]
theorem tZero_run {z : Value} (h : tZero P t = some z) : (zeroValue t).run P w = .ok z w := by
  unfold tZero at h
  cases hi : P.info? t with
  | none => rw [hi] at h; cases h
  | some i => rw [hi] at h; simp at h; simp [zeroValue, typeInfo, program, Sem.run_bind, Sem.run, hi, Result.andThen, pure, h]
theorem tElem_und {e : TypeId} (h : tElem P t = some e) : P.underlying t = some (.slice e) := by
  unfold tElem at h
  cases hu : P.underlying t with
  | none => rw [hu] at h; cases h
  | some d => rw [hu] at h; cases d <;> simp at h; subst h; rfl
theorem tArr_und {n : Nat} {e : TypeId} (h : tArr P t = some (n, e)) : P.underlying t = some (.array n e) := by
  unfold tArr at h
  cases hu : P.underlying t with
  | none => rw [hu] at h; cases h
  | some d => rw [hu] at h; cases d <;> simp at h; obtain ⟨rfl, rfl⟩ := h; rfl
theorem tFld_und {i o s : Nat} {ft : TypeId} (h : tFld P t i = some (o, ft, s)) : ∃ fs f, P.underlying t = some (.struct fs) ∧ fs[i]? = some f ∧ f.offset = o ∧ f.type = ft ∧ tSz P ft = some s := by
  unfold tFld at h
  cases hu : P.underlying t with
  | none => rw [hu] at h; cases h
  | some d =>
    rw [hu] at h
    cases d <;> simp only [Option.bind_some, reduceCtorEq] at h
    rename_i fs
    cases hf : fs[i]? with
    | none => rw [hf] at h; cases h
    | some f =>
      rw [hf] at h
      cases hs : tSz P f.type with
      | none => simp [hs] at h
      | some s' => simp [hs] at h; obtain ⟨rfl, rfl, rfl⟩ := h; exact ⟨fs, f, rfl, hf, rfl, rfl, hs⟩
theorem tSz_info {n : Nat} (h : tSz P t = some n) : ∃ i, P.info? t = some i ∧ i.size = n := by
  unfold tSz at h
  cases hi : P.info? t with
  | none => rw [hi] at h; cases h
  | some i => rw [hi] at h; cases h; exact ⟨i, rfl, rfl⟩
end

/-! ### One operation -/
def Op1 (P : Program) (E : Env) (S : Im) (L : List (Nat × HA)) (l : List (Nat × Value)) (o : Oper) (K : Im → List (Nat × HA) → List (Nat × Value) → Prop) : Prop :=
  ∀ (a : Act) (w : World) (X : Act → World → Prop), St E S L l a w →
    (∀ S' L' l' a' w', K S' L' l' → St E S' L' l' a' w' → X a' w') → o.wp P a w X (fun _ _ _ => False)

/-- What only makes a value (it may look at memory). -/
def PV (P : Program) (E : Env) (S : Im) (L : List (Nat × HA)) (l : List (Nat × Value)) (o : Oper) (v : Value) : Prop :=
  ∀ a w, Ag E.n l a → Hp E S L w → (execOp a.eval o).run P w = .ok (.value v) w

section
variable {P : Program} {E : Env} {S : Im} {L : List (Nat × HA)} {l : List (Nat × Value)}
variable {dd : Option Nat} {ty : TypeId} {pos : String} {af : Array Edge} {gd : Option (Nat × Bool)}

theorem op_pv {d : Nat} {op : Op} {v : Value} {K : Im → List (Nat × HA) → List (Nat × Value) → Prop} (hd : d < E.n) (h : PV P E S L l ⟨some d, op, ty, pos, af, gd⟩ v) (k : K S L ((d, v) :: l)) : Op1 P E S L l ⟨some d, op, ty, pos, af, gd⟩ K := by
  intro a w X hs hX
  unfold Oper.wp
  rw [h a w hs.ag hs.hp]
  exact hX _ _ _ _ _ k ⟨hs.ag.put hd v, hs.hp, hs.marks⟩
theorem pv_of {op : Op} {v : Value} (h : ∀ a w, Ag E.n l a → (execOp a.eval ⟨dd, op, ty, pos, af, gd⟩).run P w = .ok (.value v) w) : PV P E S L l ⟨dd, op, ty, pos, af, gd⟩ v := fun a w ha _ => h a w ha

theorem pv_move {x : Operand} {v : Value} (hx : ev l x = some v) :
    PV P E S L l ⟨dd, .move x, ty, pos, af, gd⟩ (v) :=
  pv_of (fun a w h => by simp [execOp, h.ev hx, Sem.run])
theorem pv_assign {x : Operand} {v : Value} (hx : ev l x = some v) :
    PV P E S L l ⟨dd, .assign x, ty, pos, af, gd⟩ (v) :=
  pv_of (fun a w h => by simp [execOp, h.ev hx, Sem.run])
theorem pv_pick_t {c x y : Operand} {b : Bool} {v : Value} (hc : ev l c = some (.bool b)) (hb : b = true) (hx : ev l x = some v) :
    PV P E S L l ⟨dd, .pick c x y, ty, pos, af, gd⟩ (v) :=
  pv_of (fun a w h => by subst hb; simp [execOp, h.ev hc, h.ev hx, Sem.run_bind, asBool, Sem.run, Result.andThen])
theorem pv_pick_f {c x y : Operand} {b : Bool} {v : Value} (hc : ev l c = some (.bool b)) (hb : b = false) (hy : ev l y = some v) :
    PV P E S L l ⟨dd, .pick c x y, ty, pos, af, gd⟩ (v) :=
  pv_of (fun a w h => by subst hb; simp [execOp, h.ev hc, h.ev hy, Sem.run_bind, asBool, Sem.run, Result.andThen])
theorem pv_not {x : Operand} {b : Bool} {t : TypeId} (hx : ev l x = some (.bool b)) :
    PV P E S L l ⟨dd, .unOp .not t x, ty, pos, af, gd⟩ (.bool !b) :=
  pv_of (fun a w h => by simp [execOp, h.ev hx, Op.unary, Sem.run_bind, Sem.run, Result.andThen])
theorem pv_extract {x : Operand} {vs : Array Value} {i : Nat} {v : Value} (hx : ev l x = some (.tuple vs)) (hv : vs[i]? = some v) :
    PV P E S L l ⟨dd, .extract x i, ty, pos, af, gd⟩ (v) :=
  pv_of (fun a w h => by simp [execOp, h.ev hx, Instr.extract, hv, Sem.run_bind, Sem.run, Result.andThen])
theorem pv_nilCheck {x : Operand} {ad : Addr} (hx : ev l x = some (.pointer (some ad))) :
    PV P E S L l ⟨dd, .nilCheck x, ty, pos, af, gd⟩ (.pointer (some ad)) :=
  pv_of (fun a w h => by simp [execOp, h.ev hx, Sem.run])
theorem pv_makeFunc {fn : Fn} {first captured : Array Operand} {vs us : List Value} (hf : evs l first.toList = some us) (hc : evs l captured.toList = some vs) :
    PV P E S L l ⟨dd, .makeFunc fn first captured, ty, pos, af, gd⟩ (.func fn us.toArray vs.toArray) :=
  pv_of (fun a w h => by
    have h1 : first.map a.eval = us.toArray := by rw [← h.evs hf, ← Array.toList_map]
    have h2 : captured.map a.eval = vs.toArray := by rw [← h.evs hc, ← Array.toList_map]
    simp only [execOp, Instr.makeFunc, h1, h2]
    rfl)

/-! #### numbers -/
def InR (k : IntKind) (x : Int) : Prop := IntKind.wrap k x = x
theorem inR_i64 {x : Int} (h1 : -9223372036854775808 ≤ x) (h2 : x ≤ 9223372036854775807) : InR .i64 x := IntWalk.i64_in _ ⟨h1, h2⟩

theorem pv_arith {b : BinOp} {t ut : TypeId} {x y : Operand} {k1 : IntKind} {m n r : Int} (hx : ev l x = some (.int k1 m)) (hy : ev l y = some (.int k1 n))
    (hop : ∀ w : World, (Op.intArith b k1 m n).run P w = .ok (.int k1 r) w) (hb : b = .add ∨ b = .sub ∨ b = .mul) :
    PV P E S L l ⟨dd, .binOp b t x y ut, ty, pos, af, gd⟩ (.int k1 r) :=
  pv_of (fun a w h => by
    rcases hb with rfl | rfl | rfl <;> simp [execOp, h.ev hx, h.ev hy, eqGuard, binOp, Sem.run_bind, hop, Sem.run, Result.andThen])
theorem pv_add {t ut : TypeId} {x y : Operand} {k1 : IntKind} {m n : Int} (hx : ev l x = some (.int k1 m)) (hy : ev l y = some (.int k1 n)) (hr : InR k1 (m + n)) :
    PV P E S L l ⟨dd, .binOp .add t x y ut, ty, pos, af, gd⟩ (.int k1 (m + n)) := pv_arith hx hy (fun w => by unfold InR at hr; simp [Op.intArith, hr, Sem.run]) (.inl rfl)
theorem pv_sub {t ut : TypeId} {x y : Operand} {k1 : IntKind} {m n : Int} (hx : ev l x = some (.int k1 m)) (hy : ev l y = some (.int k1 n)) (hr : InR k1 (m - n)) :
    PV P E S L l ⟨dd, .binOp .sub t x y ut, ty, pos, af, gd⟩ (.int k1 (m - n)) := pv_arith hx hy (fun w => by unfold InR at hr; simp [Op.intArith, hr, Sem.run]) (.inr (.inl rfl))
theorem pv_mul {t ut : TypeId} {x y : Operand} {k1 : IntKind} {m n : Int} (hx : ev l x = some (.int k1 m)) (hy : ev l y = some (.int k1 n)) (hr : InR k1 (m * n)) :
    PV P E S L l ⟨dd, .binOp .mul t x y ut, ty, pos, af, gd⟩ (.int k1 (m * n)) := pv_arith hx hy (fun w => by unfold InR at hr; simp [Op.intArith, hr, Sem.run]) (.inr (.inr rfl))

theorem pv_cmp {b : BinOp} {t ut : TypeId} {x y : Operand} {k1 : IntKind} {m n : Int} {r : Bool} (hx : ev l x = some (.int k1 m)) (hy : ev l y = some (.int k1 n))
    (hop : ∀ w : World, (Op.intCmp b m n).run P w = .ok (.bool r) w) (hb : b = .eql ∨ b = .neq ∨ b = .lss ∨ b = .leq ∨ b = .gtr ∨ b = .geq) :
    PV P E S L l ⟨dd, .binOp b t x y ut, ty, pos, af, gd⟩ (.bool r) :=
  pv_of (fun a w h => by
    rcases hb with rfl | rfl | rfl | rfl | rfl | rfl <;> simp [execOp, h.ev hx, h.ev hy, eqGuard, binOp, Sem.run_bind, hop, Sem.run, Result.andThen])
theorem pv_eql {t ut : TypeId} {x y : Operand} {k1 : IntKind} {m n : Int} (hx : ev l x = some (.int k1 m)) (hy : ev l y = some (.int k1 n)) :
    PV P E S L l ⟨dd, .binOp .eql t x y ut, ty, pos, af, gd⟩ (.bool (m == n)) := pv_cmp hx hy (fun w => by simp [Op.intCmp, Sem.run]) (by simp)
theorem pv_neq {t ut : TypeId} {x y : Operand} {k1 : IntKind} {m n : Int} (hx : ev l x = some (.int k1 m)) (hy : ev l y = some (.int k1 n)) :
    PV P E S L l ⟨dd, .binOp .neq t x y ut, ty, pos, af, gd⟩ (.bool (m != n)) := pv_cmp hx hy (fun w => by simp [Op.intCmp, Sem.run]) (by simp)
theorem pv_lss {t ut : TypeId} {x y : Operand} {k1 : IntKind} {m n : Int} (hx : ev l x = some (.int k1 m)) (hy : ev l y = some (.int k1 n)) :
    PV P E S L l ⟨dd, .binOp .lss t x y ut, ty, pos, af, gd⟩ (.bool (decide (m < n))) := pv_cmp hx hy (fun w => by simp [Op.intCmp, Sem.run]) (by simp)
theorem pv_leq {t ut : TypeId} {x y : Operand} {k1 : IntKind} {m n : Int} (hx : ev l x = some (.int k1 m)) (hy : ev l y = some (.int k1 n)) :
    PV P E S L l ⟨dd, .binOp .leq t x y ut, ty, pos, af, gd⟩ (.bool (decide (m ≤ n))) := pv_cmp hx hy (fun w => by simp [Op.intCmp, Sem.run]) (by simp)
theorem pv_gtr {t ut : TypeId} {x y : Operand} {k1 : IntKind} {m n : Int} (hx : ev l x = some (.int k1 m)) (hy : ev l y = some (.int k1 n)) :
    PV P E S L l ⟨dd, .binOp .gtr t x y ut, ty, pos, af, gd⟩ (.bool (decide (n < m))) := pv_cmp hx hy (fun w => by simp [Op.intCmp, Sem.run]) (by simp)
theorem pv_geq {t ut : TypeId} {x y : Operand} {k1 : IntKind} {m n : Int} (hx : ev l x = some (.int k1 m)) (hy : ev l y = some (.int k1 n)) :
    PV P E S L l ⟨dd, .binOp .geq t x y ut, ty, pos, af, gd⟩ (.bool (decide (n ≤ m))) := pv_cmp hx hy (fun w => by simp [Op.intCmp, Sem.run]) (by simp)

theorem pv_div {b : BinOp} {t ut : TypeId} {x y : Operand} {k1 : IntKind} {m n r : Int} (hx : ev l x = some (.int k1 m)) (hy : ev l y = some (.int k1 n))
    (hop : ∀ w : World, (Op.intDiv b k1 m n).run P w = .ok (.int k1 r) w) (hb : b = .quo ∨ b = .rem) :
    PV P E S L l ⟨dd, .binOp b t x y ut, ty, pos, af, gd⟩ (.int k1 r) :=
  pv_of (fun a w h => by
    rcases hb with rfl | rfl <;> simp [execOp, h.ev hx, h.ev hy, eqGuard, binOp, Sem.run_bind, hop, Sem.run, Result.andThen])
/-- Division of a number that is not below 0 by one above 0. -/
theorem pv_quo {t ut : TypeId} {x y : Operand} {k1 : IntKind} {m n : Int} (hx : ev l x = some (.int k1 m)) (hy : ev l y = some (.int k1 n)) (h0 : 0 ≤ m) (h1 : 0 < n) (hr : InR k1 (m / n)) :
    PV P E S L l ⟨dd, .binOp .quo t x y ut, ty, pos, af, gd⟩ (.int k1 (m / n)) := pv_div hx hy (fun w => by
      unfold InR at hr
      rw [← Int.tdiv_eq_ediv_of_nonneg h0] at hr ⊢
      simp [Op.intDiv, hr, Sem.run, show ¬ n = 0 by omega]) (.inl rfl)
theorem pv_rem {t ut : TypeId} {x y : Operand} {k1 : IntKind} {m n : Int} (hx : ev l x = some (.int k1 m)) (hy : ev l y = some (.int k1 n)) (h0 : 0 ≤ m) (h1 : 0 < n) :
    PV P E S L l ⟨dd, .binOp .rem t x y ut, ty, pos, af, gd⟩ (.int k1 (m % n)) := pv_div hx hy (fun w => by
      rw [← Int.tmod_eq_emod_of_nonneg h0]
      simp [Op.intDiv, Sem.run, show ¬ n = 0 by omega]) (.inr rfl)

theorem pv_bits {b : BinOp} {t ut : TypeId} {x y : Operand} {k1 : IntKind} {m n r : Int} (hx : ev l x = some (.int k1 m)) (hy : ev l y = some (.int k1 n))
    (hop : ∀ w : World, (Op.intBits b k1 m n).run P w = .ok (.int k1 r) w) (hb : b = .and ∨ b = .or ∨ b = .xor) :
    PV P E S L l ⟨dd, .binOp b t x y ut, ty, pos, af, gd⟩ (.int k1 r) :=
  pv_of (fun a w h => by
    rcases hb with rfl | rfl | rfl <;> simp [execOp, h.ev hx, h.ev hy, eqGuard, binOp, Sem.run_bind, hop, Sem.run, Result.andThen])

theorem pv_shr {t ut : TypeId} {x y : Operand} {k1 k2 : IntKind} {m n : Int} (hx : ev l x = some (.int k1 m)) (hy : ev l y = some (.int k2 n)) (h0 : 0 ≤ n) (h1 : n ≤ k1.bits) :
    PV P E S L l ⟨dd, .binOp .shr t x y ut, ty, pos, af, gd⟩ (.int k1 (m / 2 ^ n.toNat)) :=
  pv_of (fun a w h => by
    have e : min n.toNat k1.bits = n.toNat := by omega
    have e2 : m.fdiv (2 ^ n.toNat) = m / 2 ^ n.toNat := Int.fdiv_eq_ediv_of_nonneg _ (Int.pow_nonneg (by omega))
    simp [execOp, h.ev hx, h.ev hy, eqGuard, binOp, Sem.run_bind, Op.shift, show ¬ n < 0 by omega, e, e2, Sem.run, Result.andThen])
theorem pv_shl {t ut : TypeId} {x y : Operand} {k1 k2 : IntKind} {m n : Int} (hx : ev l x = some (.int k1 m)) (hy : ev l y = some (.int k2 n)) (h0 : 0 ≤ n) (h1 : n ≤ k1.bits) (hr : InR k1 (m * 2 ^ n.toNat)) :
    PV P E S L l ⟨dd, .binOp .shl t x y ut, ty, pos, af, gd⟩ (.int k1 (m * 2 ^ n.toNat)) :=
  pv_of (fun a w h => by
    have e : min n.toNat k1.bits = n.toNat := by omega
    unfold InR at hr
    simp [execOp, h.ev hx, h.ev hy, eqGuard, binOp, Sem.run_bind, Op.shift, show ¬ n < 0 by omega, e, hr, Sem.run, Result.andThen])

theorem pv_conv {s t : TypeId} {x : Operand} {k1 k2 : IntKind} {m : Int} (hx : ev l x = some (.int k1 m)) {u : TypeDesc} (hs : P.underlying s = some u) (ht : P.underlying t = some (.int k2)) (hr : InR k2 m) :
    PV P E S L l ⟨dd, .convert s t x, ty, pos, af, gd⟩ (.int k2 m) :=
  pv_of (fun a w h => by
    unfold InR at hr
    simp [execOp, h.ev hx, convert, Sem.run_bind, run_und hs, run_und ht, Result.andThen, Conv.intToInt, hr, Sem.run])

/-! #### bools, and what is nil -/
theorem eqGuard_bool {b : BinOp} {t : TypeId} {x y : Operand} {m n : Bool} {w : World} : (eqGuard b t x y (.bool m) (.bool n)).run P w = .ok () w := by
  unfold eqGuard; split <;> rfl
theorem eqGuard_slice {b : BinOp} {t : TypeId} {x y : Operand} {A B : Option Addr} {m n c e : Nat} {w : World} : (eqGuard b t x y (.slice A m c) (.slice B n e)).run P w = .ok () w := by
  unfold eqGuard; split <;> rfl
theorem pv_eqlb {t ut : TypeId} {x y : Operand} {m n : Bool} (hx : ev l x = some (.bool m)) (hy : ev l y = some (.bool n)) (ht : P.underlying t = some .bool) :
    PV P E S L l ⟨dd, .binOp .eql t x y ut, ty, pos, af, gd⟩ (.bool (m == n)) :=
  pv_of (fun a w h => by simp [execOp, h.ev hx, h.ev hy, Sem.run_bind, eqGuard_bool, run_eql_bool w t m n ht, Result.andThen, Sem.run])
theorem pv_neqb {t ut : TypeId} {x y : Operand} {m n : Bool} (hx : ev l x = some (.bool m)) (hy : ev l y = some (.bool n)) (ht : P.underlying t = some .bool) :
    PV P E S L l ⟨dd, .binOp .neq t x y ut, ty, pos, af, gd⟩ (.bool (m != n)) :=
  pv_of (fun a w h => by
    have e : (binOp .neq t (.bool m) (.bool n)).run P w = .ok (.bool (m != n)) w := run_neq_bool w t m n ht
    simp [execOp, h.ev hx, h.ev hy, Sem.run_bind, eqGuard_bool, e, Result.andThen, Sem.run])
theorem pv_eqlnil {t ut e : TypeId} {x y : Operand} {A : Option Addr} {n c : Nat} (hx : ev l x = some (.slice A n c)) (hy : ev l y = some (.slice none 0 0)) (ht : tElem P t = some e) :
    PV P E S L l ⟨dd, .binOp .eql t x y ut, ty, pos, af, gd⟩ (.bool A.isNone) :=
  pv_of (fun a w h => by
    have e := Lib.run_eql_slice_nil (P := P) w t e A n c 0 0 (tElem_und ht)
    simp [execOp, h.ev hx, h.ev hy, Sem.run_bind, eqGuard_slice, e, Result.andThen, Sem.run])
theorem pv_eqls {t ut : TypeId} {x y : Operand} {s u : ByteArray} (hx : ev l x = some (.string s)) (hy : ev l y = some (.string u)) :
    PV P E S L l ⟨dd, .binOp .eql t x y ut, ty, pos, af, gd⟩ (.bool (s.toList == u.toList)) :=
  pv_of (fun a w h => by
    have e : (eqGuard .eql t x y (.string s) (.string u)).run P w = .ok () w := rfl
    simp [execOp, h.ev hx, h.ev hy, Sem.run_bind, e, binOp_string_eql, Result.andThen, Sem.run])

/-! #### addresses -/
theorem pv_field {t ft : TypeId} {x : Operand} {i o s : Nat} {cs : Array Value} {v : Value} (hx : ev l x = some (.agg cs)) (hf : tFld P t i = some (o, ft, s)) (ha : tAgg P ft = some false) (hv : cs[o]? = some v) :
    PV P E S L l ⟨dd, .field t x i, ty, pos, af, gd⟩ (v) :=
  pv_of (fun a w h => by
    obtain ⟨fs, f, hu, hfi, rfl, rfl, hs⟩ := tFld_und hf
    simp [execOp, h.ev hx, Instr.field, Sem.run_bind, run_und hu, Result.andThen, hfi, asAgg, part, tAgg_run ha, hv, Sem.run])
theorem pv_field_agg {t ft : TypeId} {x : Operand} {i o s : Nat} {cs : Array Value} (hx : ev l x = some (.agg cs)) (hf : tFld P t i = some (o, ft, s)) (ha : tAgg P ft = some true) :
    PV P E S L l ⟨dd, .field t x i, ty, pos, af, gd⟩ (.agg (cs.extract o (o + s))) :=
  pv_of (fun a w h => by
    obtain ⟨fs, f, hu, hfi, rfl, rfl, hs⟩ := tFld_und hf
    simp [execOp, h.ev hx, Instr.field, Sem.run_bind, run_und hu, Result.andThen, hfi, asAgg, part, tAgg_run ha, tSz_run hs, Sem.run])
theorem pv_fieldAddr {t ft : TypeId} {x : Operand} {i o s : Nat} {ad : Addr} (hx : ev l x = some (.pointer (some ad))) (hf : tFld P t i = some (o, ft, s + 1)) :
    PV P E S L l ⟨dd, .fieldAddr t x i, ty, pos, af, gd⟩ (.pointer (some (ad.add o))) :=
  pv_of (fun a w h => by
    obtain ⟨fs, f, hu, hfi, rfl, rfl, hs⟩ := tFld_und hf
    simp [execOp, h.ev hx, Instr.fieldAt, Sem.run_bind, run_und hu, Result.andThen, hfi, Instr.sureAddr, fieldPlace, tSz_run hs, Sem.run])
theorem pv_indexAddr {t e : TypeId} {x y : Operand} {ad : Addr} {n c sz : Nat} {ik : IntKind} {i : Int} (hx : ev l x = some (.slice (some ad) n c)) (hy : ev l y = some (.int ik i)) (ht : tElem P t = some e) (hs : tSz P e = some sz)
    (h0 : 0 ≤ i) (h1 : i < n) :
    PV P E S L l ⟨dd, .indexAddr t x y, ty, pos, af, gd⟩ (.pointer (some (ad.add (i.toNat * sz)))) :=
  pv_of (fun a w h => by
    have hu := tElem_und ht
    simp [execOp, h.ev hx, h.ev hy, Instr.indexAt, asIntOf, Sem.run_bind, run_und hu, Result.andThen, Sem.run, tSz_run hs, h0, h1])
theorem pv_indexAddr_arr {t e : TypeId} {x y : Operand} {ad : Addr} {n sz : Nat} {ik : IntKind} {i : Int} (hx : ev l x = some (.pointer (some ad))) (hy : ev l y = some (.int ik i)) (ht : tArr P t = some (n, e)) (hs : tSz P e = some sz)
    (h0 : 0 ≤ i) (h1 : i < n) :
    PV P E S L l ⟨dd, .indexAddr t x y, ty, pos, af, gd⟩ (.pointer (some (ad.add (i.toNat * sz)))) :=
  pv_of (fun a w h => by
    have hu := tArr_und ht
    simp [execOp, h.ev hx, h.ev hy, Instr.indexAt, asIntOf, Sem.run_bind, run_und hu, Result.andThen, Sem.run, tSz_run hs, h0, h1, Instr.sureAddr])
theorem pv_index_arr {t e : TypeId} {x y : Operand} {cs : Array Value} {n : Nat} {ik : IntKind} {i : Int} {v : Value} (hx : ev l x = some (.agg cs)) (hy : ev l y = some (.int ik i)) (ht : tArr P t = some (n, e)) (hs : tSz P e = some 1) (ha : tAgg P e = some false)
    (h0 : 0 ≤ i) (h1 : i < n) (hv : cs[i.toNat]? = some v) :
    PV P E S L l ⟨dd, .index t x y, ty, pos, af, gd⟩ (v) :=
  pv_of (fun a w h => by
    have hu := tArr_und ht
    simp [execOp, h.ev hx, h.ev hy, Instr.index, asIntOf, Sem.run_bind, run_und hu, Result.andThen, Sem.run, tSz_run hs, h0, h1, part, tAgg_run ha, hv])
theorem pv_len {t : TypeId} {x : Operand} {A : Option Addr} {n c : Nat} {e : TypeId} (hx : ev l x = some (.slice A n c)) (ht : tElem P t = some e) :
    PV P E S L l ⟨dd, .call ⟨.builtin .len, #[x], #[t]⟩, ty, pos, af, gd⟩ (.int .i64 n) :=
  pv_of (fun a w h => by
    have hu := tElem_und ht
    simp [execOp, resolve, invoke, builtin, h.ev hx, Builtin.len_, Sem.run_bind, run_und hu, Result.andThen, Sem.run, goInt])
theorem pv_cap {t : TypeId} {x : Operand} {A : Option Addr} {n c : Nat} {e : TypeId} (hx : ev l x = some (.slice A n c)) (ht : tElem P t = some e) :
    PV P E S L l ⟨dd, .call ⟨.builtin .cap, #[x], #[t]⟩, ty, pos, af, gd⟩ (.int .i64 c) :=
  pv_of (fun a w h => by
    have hu := tElem_und ht
    simp [execOp, resolve, invoke, builtin, h.ev hx, Builtin.cap_, Sem.run_bind, run_und hu, Result.andThen, Sem.run, goInt])
theorem pv_max {t : TypeId} {x y : Operand} {k1 k2 : IntKind} {m n : Int} {at_ : Array TypeId} (hx : ev l x = some (.int k1 m)) (hy : ev l y = some (.int k2 n)) :
    PV P E S L l ⟨dd, .call ⟨.builtin .max, #[x, y], at_⟩, ty, pos, af, gd⟩ (.int k1 (max m n)) :=
  pv_of (fun a w h => by
    have e : (if n > m then n else m) = max m n := by omega
    simp [execOp, resolve, invoke, builtin, h.ev hx, h.ev hy, Builtin.max_, Builtin.max2, Sem.run_bind, Result.andThen, Sem.run, List.foldlM]
    omega)
theorem pv_min {t : TypeId} {x y : Operand} {k1 k2 : IntKind} {m n : Int} {at_ : Array TypeId} (hx : ev l x = some (.int k1 m)) (hy : ev l y = some (.int k2 n)) :
    PV P E S L l ⟨dd, .call ⟨.builtin .min, #[x, y], at_⟩, ty, pos, af, gd⟩ (.int k1 (min m n)) :=
  pv_of (fun a w h => by
    simp [execOp, resolve, invoke, builtin, h.ev hx, h.ev hy, Builtin.min_, Builtin.min2, Sem.run_bind, Result.andThen, Sem.run, List.foldlM]
    omega)

/-! #### memory: loads -/
theorem add0 (g j : Nat) : (⟨g, 0, none⟩ : Addr).add j = ⟨g, j, none⟩ := by unfold Addr.add; split <;> simp_all
theorem addp (g o j : Nat) : (⟨g, o, none⟩ : Addr).add j = ⟨g, o + j, none⟩ := by unfold Addr.add; split <;> simp_all

/-- What stands in a cell: of what is read alone, or of an owned block. -/
def Cell (S : Im) (L : List (Nat × HA)) (ad : Addr) (v : Value) : Prop :=
  (∃ cs T fr, ad.spot = none ∧ S ad.block = some (.cells cs T fr) ∧ cs[ad.off]? = some v) ∨
  (∃ k cs T, ad.spot = none ∧ lk L k = some (.blk ad.block cs T) ∧ cs[ad.off]? = some v) ∨
  (∃ k T sz n xs u, ad.spot = none ∧ lk L k = some (.row u T sz n xs) ∧ u.ownBlock = some ad.block ∧ xs[ad.off]? = some v)

theorem Cell.cell {ad : Addr} {v : Value} {w : World} (h : Cell S L ad v) (hp : Hp E S L w) : w.cell? ad = some v := by
  rcases h with ⟨cs, T, fr, hs, hS, hv⟩ | ⟨k, cs, T, hs, hL, hv⟩ | ⟨k, T, sz, n, xs, u, hs, hL, hb, hv⟩
  · simp [World.cell?, hp.im _ _ hS, hs, hv]
  · have hh := (hp.own k _ hL).1
    simp only [HA.holds] at hh
    simp [World.cell?, hh, hs, hv]
  · have hh : w.ownsRow 0 T sz u n xs := (hp.own k _ hL).1
    have := World.ownsRow.cells hh hb ad.off v hv
    rw [add0] at this
    obtain ⟨b, o, s⟩ := ad
    simp only at hs this
    subst hs
    exact this

theorem Cell.blk (k : Nat) {g off : Nat} {cs : List Value} {T : TypeId} {v : Value} (hL : lk L k = some (.blk g cs T)) (hv : cs[off]? = some v) : Cell S L ⟨g, off, none⟩ v := .inr (.inl ⟨k, cs, T, rfl, hL, hv⟩)
theorem Cell.row (k : Nat) {g off c : Nat} {xs : List Value} {T sz n m : Nat} {v : Value} (hL : lk L k = some (.row (.slice (some ⟨g, 0, none⟩) m c) T sz n xs)) (hv : xs[off]? = some v) : Cell S L ⟨g, off, none⟩ v := .inr (.inr ⟨k, T, sz, n, xs, _, rfl, hL, rfl, hv⟩)

theorem pv_load {t : TypeId} {x : Operand} {ad : Addr} {v : Value} (hx : ev l x = some (.pointer (some ad))) (ht : tAgg P t = some false) (hc : Cell S L ad v) :
    PV P E S L l ⟨dd, .load t x, ty, pos, af, gd⟩ (v) :=
  (fun a w h hp => by
    simp [execOp, h.ev hx, Instr.loadAt, Instr.sureAddr, loadVar, Sem.run_bind, tAgg_run ht, Result.andThen, load, Sem.run, hc.cell hp])

def Cells (S : Im) (L : List (Nat × HA)) (ad : Addr) : List Value → Prop
  | [] => True
  | v :: t => Cell S L ad v ∧ Cells S L (ad.add 1) t

theorem Cells.get {S : Im} {L : List (Nat × HA)} : ∀ {cs : List Value} {ad : Addr}, ad.spot = none → Cells S L ad cs → ∀ j v, cs[j]? = some v → Cell S L (ad.add j) v
  | [], _, _, _, j, v, h => by simp at h
  | c :: t, ad, hs, h, 0, v, hv => by simp at hv; subst hv; simpa [Addr.add] using h.1
  | c :: t, ad, hs, h, j + 1, v, hv => by
    have := Cells.get (ad := ad.add 1) (by simp [Addr.add]) h.2 j v (by simpa using hv)
    have e : (ad.add 1).add j = ad.add (j + 1) := by
      obtain ⟨b, o, s⟩ := ad
      simp only at hs; subst hs
      rw [addp, addp, addp]; congr 1; omega
    rwa [e] at this

theorem pv_load_agg {t : TypeId} {x : Operand} {ad : Addr} {cs : List Value} (hx : ev l x = some (.pointer (some ad))) (ht : tAgg P t = some true) (hs : tSz P t = some cs.length) (hsp : ad.spot = none) (hc : Cells S L ad cs) :
    PV P E S L l ⟨dd, .load t x, ty, pos, af, gd⟩ (.agg cs.toArray) :=
  (fun a w h hp => by
    have hl := run_loadCells_list (P := P) (w := w) ad cs (fun j v hj => (Cells.get hsp hc j v hj).cell hp)
    simp [execOp, h.ev hx, Instr.loadAt, Instr.sureAddr, loadVar, Sem.run_bind, tAgg_run ht, tSz_run hs, Result.andThen, Sem.run, hl])

end
end Go.Proofs.Ythamgiecgilmdaa
