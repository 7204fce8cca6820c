/- From single operations to regions, loops, bodies. -/
import Derived.Test.YthamgiecgilmdaaRbF
import Derived.OrdersIn
import Derived.RangeFuncNested
namespace Go.Proofs.Ythamgiecgilmdaa
open Go Go.RowKit

def FW (r : Option Nat) : Fence := { Fence.wide with round := r }

def onlyN (Q : Exit → Act → World → Prop) : Exit → Act → World → Prop
  | .normal, a, w => Q .normal a w
  | _, _, _ => False

theorem onlyN_out {Q : Exit → Act → World → Prop} : ¬ LetsOut (onlyN Q) := fun ⟨_, _, h⟩ => h

def noDefer (ops : Array Oper) : Bool := ops.toList.all fun o => match o.op with | .defer _ => false | _ => true

theorem callsIn_FW {r : Option Nat} {n : Nat} {P : Program} {f : FuncId} {args : Array Value} {w : World} {R : Ending → World → Prop} : CallsIn (FW r) n P f args w R ↔ Calls P f args w R :=
  (show CallsIn (FW r) n P f args w R ↔ CallsIn Fence.wide n P f args w R from Iff.rfl).trans callsIn_wide

theorem rowsIn_FW {r : Option Nat} {n : Nat} {P : Program} {row : String} {args : Array Value} {w : World} {R : Value → World → Prop} (h : Rows P row args w R) : RowsIn (FW r) n P row args w R :=
  fun c cs _ => let ⟨v, w', hr, hs⟩ := h c cs; ⟨v, w', hr, stepsIn_wide.2 hs⟩

theorem wp_in {P : Program} {r : Option Nat} {n : Nat} {o : Oper} {a : Act} {w : World} {X Y : Act → World → Prop} {Q Q' : Exit → Act → World → Prop} (hd : ∀ c, o.op ≠ .defer c) (hXY : ∀ a w, X a w → Y a w) (hQ : ¬ LetsOut (onlyN Q))
    (h : o.wp P a w X (onlyN Q)) : o.wpIn (FW r) n P a w Y Q' := by
  refine ⟨fun _ _ => trivial, ?_⟩
  have hs : o.semAt (FW r).round a.eval = execOp a.eval o := by
    cases r with
    | none => simp [FW, Oper.semAt]
    | some l => exact Oper.semAt_some l _ _ hd
  rw [hs]
  unfold Oper.wp at h
  generalize (execOp a.eval o).run P w = res at h ⊢
  cases res with
  | ok x w' =>
    cases x <;> simp only [Oper.upon, Oper.uponIn] at h ⊢ <;> first
      | exact hXY _ _ h
      | exact ⟨fun e => by simp [FW, Fence.wide] at e, callsIn_FW.2 (h.mono fun e w'' he => by cases e <;> first | exact hXY _ _ he | exact he.elim | exact (hQ he).elim)⟩
      | exact ⟨fun e => by simp [FW, Fence.wide] at e, rowsIn_FW fun c cs => let ⟨v, w'', hr, hs⟩ := h c cs; ⟨v, w'', hXY _ _ hr, hs⟩⟩
      | exact h.elim
  | halt x w' => cases x <;> simp only [Oper.upon, Oper.uponIn] at h ⊢ <;> exact h.elim

theorem wpOps_in {P : Program} {r : Option Nat} {n : Nat} {ops : Array Oper} {Q : Exit → Act → World → Prop} (hd : noDefer ops = true) : ∀ (is : List Nat) (a : Act) (w : World), wpOps P ops (onlyN Q) is a w → wpOpsIn (FW r) n P ops Q is a w
  | [], a, w, h => h
  | i :: rest, a, w, h => by
    simp only [wpOps, wpOpsIn] at h ⊢
    cases ho : ops[i]? with
    | none => rw [ho] at h; exact wpOps_in hd rest a w h
    | some o =>
      rw [ho] at h
      simp only at h ⊢
      split at h
      · rename_i hw
        rw [if_pos hw]
        rcases h with h | ⟨_, h⟩
        · refine wp_in (fun c hc => ?_) (fun a w h => wpOps_in hd rest a w h) onlyN_out h
          have hm : o ∈ ops.toList := by
            obtain ⟨hi, e⟩ := Array.getElem?_eq_some_iff.1 ho
            rw [← e]; simp
          have := List.all_eq_true.1 hd o hm
          rw [hc] at this; cases this
        · exact (onlyN_out h).elim
      · rename_i hw
        rw [if_neg hw]
        exact ⟨fun _ _ => trivial, wpOps_in hd rest _ w h⟩

/-! ### Lists of operations -/
def T (P : Program) (E : Env) (ops : Array Oper) (Q : Exit → Act → World → Prop) (S : Im) (L : List (Nat × HA)) (l : List (Nat × Value)) (rest : List Oper) : Prop :=
  ∀ a w, St E S L l a w → wpList P ops (onlyN Q) rest a w

section
variable {P : Program} {E : Env} {ops : Array Oper} {Q : Exit → Act → World → Prop} {S : Im} {L : List (Nat × HA)} {l : List (Nat × Value)} {rest : List Oper} {o : Oper}

theorem wp_false {a : Act} {w : World} {X : Act → World → Prop} (h : o.wp P a w X (fun _ _ _ => False)) : o.wp P a w X (onlyN Q) := by
  unfold Oper.wp at h ⊢
  generalize (execOp a.eval o).run P w = res at h ⊢
  cases res with
  | ok x w' =>
    cases x <;> simp only [Oper.upon] at h ⊢ <;> first
      | exact h
      | exact h.mono fun e w'' he => by cases e <;> first | exact he | exact he.elim | exact (let ⟨_, _, z⟩ := he; z.elim)
  | halt x w' => cases x <;> simp only [Oper.upon] at h ⊢ <;> exact h.elim

theorem T_wanted (hw : ∀ a, Ag E.n l a → Region.wanted o (yielded ops a.tmps) = true) (h : Op1 P E S L l o fun S' L' l' => T P E ops Q S' L' l' rest) : T P E ops Q S L l (o :: rest) := by
  intro a w hs
  unfold wpList
  rw [if_pos (hw a hs.ag)]
  exact .inl (wp_false (h a w _ hs fun S' L' l' a' w' hk hs' => hk a' w' hs'))

theorem T_cons {dst : Option Nat} {op : Op} {ty : TypeId} {pos : String} {af : Array Edge} (h : Op1 P E S L l ⟨dst, op, ty, pos, af, none⟩ fun S' L' l' => T P E ops Q S' L' l' rest) : T P E ops Q S L l (⟨dst, op, ty, pos, af, none⟩ :: rest) :=
  T_wanted (fun _ _ => rfl) h

theorem T_pv {d : Nat} {op : Op} {ty : TypeId} {pos : String} {af : Array Edge} {v : Value} (hd : Nat.blt d E.n = true) (h : PV P E S L l ⟨some d, op, ty, pos, af, none⟩ v) (k : T P E ops Q S L ((d, v) :: l) rest) : T P E ops Q S L l (⟨some d, op, ty, pos, af, none⟩ :: rest) :=
  T_cons (op_pv (by simpa [Nat.blt_eq] using hd) h k)

def gslot (ops : Array Oper) (j : Nat) : Option Nat := (ops[j]?).bind (·.dst)

theorem yielded_of {j dj : Nat} {v : Value} {a : Act} (hj : gslot ops j = some dj) (hv : lk l dj = some v) (ha : Ag E.n l a) : yielded ops a.tmps j = match v with | .bool b => some b | _ => none := by
  unfold gslot at hj
  unfold yielded
  rw [hj]
  simp only [Option.bind_some]
  rw [ha.val dj v hv]
  cases v <;> rfl

theorem T_gy {d : Nat} {op : Op} {ty : TypeId} {pos : String} {af : Array Edge} {j dj : Nat} {b want : Bool} {v : Value} (hj : gslot ops j = some dj) (hv : lk l dj = some (.bool b)) (hb : b = want) (hd : Nat.blt d E.n = true)
    (h : PV P E S L l ⟨some d, op, ty, pos, af, some (j, want)⟩ v) (k : T P E ops Q S L ((d, v) :: l) rest) : T P E ops Q S L l (⟨some d, op, ty, pos, af, some (j, want)⟩ :: rest) :=
  T_wanted (fun a ha => by simp [Region.wanted, yielded_of hj hv ha, hb]) (op_pv (by simpa [Nat.blt_eq] using hd) h k)

/-- A guarded operation that does more than make a value. -/
theorem T_gyo {dst : Option Nat} {op : Op} {ty : TypeId} {pos : String} {af : Array Edge} {j dj : Nat} {b want : Bool} (hj : gslot ops j = some dj) (hv : lk l dj = some (.bool b)) (hb : b = want)
    (h : Op1 P E S L l ⟨dst, op, ty, pos, af, some (j, want)⟩ fun S' L' l' => T P E ops Q S' L' l' rest) : T P E ops Q S L l (⟨dst, op, ty, pos, af, some (j, want)⟩ :: rest) :=
  T_wanted (fun a ha => by simp [Region.wanted, yielded_of hj hv ha, hb]) h

theorem T_skip (hw : ∀ a, Ag E.n l a → Region.wanted o (yielded ops a.tmps) = false) {d : Nat} (hd : o.dst = some d) (hn : Nat.blt d E.n = true) (k : T P E ops Q S L ((d, undef) :: l) rest) : T P E ops Q S L l (o :: rest) := by
  intro a w hs
  unfold wpList
  rw [if_neg (by rw [hw a hs.ag]; simp), hd]
  exact k _ _ ⟨hs.ag.put (by simpa [Nat.blt_eq] using hn) _, hs.hp, hs.marks⟩

theorem T_gn {d : Nat} {op : Op} {ty : TypeId} {pos : String} {af : Array Edge} {j dj : Nat} {b want : Bool} (hj : gslot ops j = some dj) (hv : lk l dj = some (.bool b)) (hb : b = !want) (hn : Nat.blt d E.n = true)
    (k : T P E ops Q S L ((d, undef) :: l) rest) : T P E ops Q S L l (⟨some d, op, ty, pos, af, some (j, want)⟩ :: rest) :=
  T_skip (fun a ha => by simp [Region.wanted, yielded_of hj hv ha, hb]) rfl hn k

theorem T_gu {d : Nat} {op : Op} {ty : TypeId} {pos : String} {af : Array Edge} {j dj : Nat} {want : Bool} (hj : gslot ops j = some dj) (hv : lk l dj = some undef) (hn : Nat.blt d E.n = true)
    (k : T P E ops Q S L ((d, undef) :: l) rest) : T P E ops Q S L l (⟨some d, op, ty, pos, af, some (j, want)⟩ :: rest) :=
  T_skip (fun a ha => by simp [Region.wanted, yielded_of hj hv ha, undef]) rfl hn k

theorem T_nil (h : ∀ a w, St E S L l a w → Q .normal a w) : T P E ops Q S L l [] := h

theorem T_sub {L' : List (Nat × HA)} {l' : List (Nat × Value)} (hL : Sub L L') (hl : Sub l l') (k : T P E ops Q S L' l' rest) : T P E ops Q S L l rest := fun a w h => k a w (h.sub hL hl)

/-- A nil slice may be taken for an owned row without cells. -/
theorem St.newNil {a : Act} {w : World} (key : Nat) (e : TypeId) (sz : Nat) (h : St E S L l a w) : St E S ((key, .row (.slice none 0 0) e sz 0 []) :: L) l a w :=
  h.turn (row := none) ⟨rfl, rfl, rfl, Nat.le_refl _, fun _ _ _ => rfl⟩ key _ (.inl rfl) (World.ownsRow_nil w 0 e sz) (fun g hg => by cases hg)
theorem T_newNil (key : Nat) (e : TypeId) (sz : Nat) (k : T P E ops Q S ((key, .row (.slice none 0 0) e sz 0 []) :: L) l rest) : T P E ops Q S L l rest := fun a w h => k a w (h.newNil key e sz)
end

/-! ### Code -/
def C (P : Program) (E : Env) (r : Option Nat) (Q : Exit → Act → World → Prop) (S : Im) (L : List (Nat × HA)) (l : List (Nat × Value)) (c : Code) : Prop :=
  ∀ a w, St E S L l a w → c.wpIn (FW r) 9 P Q a w

section
variable {P : Program} {E : Env} {r : Option Nat} {Q : Exit → Act → World → Prop} {S : Im} {L : List (Nat × HA)} {l : List (Nat × Value)} {c d : Code}

theorem C_sub {L' : List (Nat × HA)} {l' : List (Nat × Value)} (hL : Sub L L') (hl : Sub l l') (k : C P E r Q S L' l' c) : C P E r Q S L l c := fun a w h => k a w (h.sub hL hl)

theorem C_region {id : Nat} {ol : List Oper} (hd : noDefer ol.toArray = true) (h : T P E ol.toArray Q S L l ol) : C P E r Q S L l (.region id ol.toArray false) := by
  intro a w hs
  refine wpIn_region (wpOps_in hd _ a w ?_)
  have := h a w hs
  rw [List.range_eq_range']
  have e := wpOps_eq_wpList (P := P) (ops := ol.toArray) (Q := onlyN Q) ol 0 (by simp)
  simp only [List.size_toArray]
  rw [e]
  exact this

/-- What follows. -/
def thn (P : Program) (r : Option Nat) (d : Code) (Q : Exit → Act → World → Prop) : Exit → Act → World → Prop := Exit.then (d.wpIn (FW r) 9 P Q) Q

theorem C_seq (h : C P E r (thn P r d Q) S L l c) : C P E r Q S L l (.seq c d) := fun a w hs => wpIn_seq (h a w hs)

theorem N_then (h : C P E r Q S L l d) : ∀ a w, St E S L l a w → thn P r d Q .normal a w := h

/-- The state at a seam is told anew. -/
theorem C_cut {σ : Type} (X : σ → Im × List (Nat × HA) × List (Nat × Value)) (p : σ → Prop) (h1 : C P E r (Exit.then (fun a w => ∃ x, p x ∧ St E (X x).1 (X x).2.1 (X x).2.2 a w) Q) S L l c)
    (h2 : ∀ x, p x → C P E r Q (X x).1 (X x).2.1 (X x).2.2 d) : C P E r Q S L l (.seq c d) := fun a w hs =>
  wpIn_seq (wpIn_mono (h1 a w hs) fun e a w he => by
    cases e <;> first | exact he | (obtain ⟨x, hp, hst⟩ := he; exact h2 x hp a w hst))

theorem C_skip (h : ∀ a w, St E S L l a w → Q .normal a w) : C P E r Q S L l .skip := fun a w hs => wpIn_skip (h a w hs)
theorem C_exit {id : Nat} (h : ∀ a w, St E S L l a w → Q (.exit id) a w) : C P E r Q S L l (.exit id) := fun a w hs => wpIn_exit (h a w hs)
theorem C_ret0 (h : ∀ a w, St E S L l a w → Q .ret a w) : C P E r Q S L l .ret := fun a w hs => wpIn_ret (h a w hs)

theorem C_cond {x : Operand} {b : Bool} (hx : ev l x = some (.bool b)) (ht : b = true → C P E r Q S L l c) (hf : b = false → C P E r Q S L l d) : C P E r Q S L l (.cond x c d) := fun a w hs => by
  refine wpIn_cond (t := b) (hs.ag.ev hx) ?_
  cases b with
  | true => exact ht rfl a w hs
  | false => exact hf rfl a w hs

theorem C_block {id : Nat} (h : C P E r (Exit.inBlock id Q) S L l c) : C P E r Q S L l (.block id c) := fun a w hs => wpIn_block (h a w hs)

/-- A loop: X tells the state at its head by a ghost x of which p holds; m goes down. -/
def lp {σ : Type} (E : Env) (X : σ → Im × List (Nat × HA) × List (Nat × Value)) (p : σ → Prop) (m : σ → Nat) (x : σ) (Q : Exit → Act → World → Prop) : Exit → Act → World → Prop :=
  Exit.then (fun a w => ∃ y, p y ∧ m y < m x ∧ St E (X y).1 (X y).2.1 (X y).2.2 a w) Q

theorem C_loop {σ : Type} (X : σ → Im × List (Nat × HA) × List (Nat × Value)) (p : σ → Prop) (m : σ → Nat) (x0 : σ) (h0 : p x0) (hS : (X x0).1 = S) (hL : Sub L (X x0).2.1) (hl : Sub l (X x0).2.2)
    (h : ∀ x, p x → C P E r (lp E X p m x Q) (X x).1 (X x).2.1 (X x).2.2 c) : C P E r Q S L l (.loop c) := by
  have least : ∀ q : Nat → Prop, (∃ n, q n) → ∃ n, q n ∧ ∀ k, q k → n ≤ k := by
    intro q hq
    refine Classical.byContradiction fun hno => ?_
    have : ∀ n, ¬ q n := by
      intro n
      induction n using Nat.strongRecOn with
      | ind n ih => exact fun hn => hno ⟨n, hn, fun k hk => Nat.le_of_not_lt fun hlt => ih k hlt hk⟩
    exact hq.elim fun n hn => this n hn
  let q : Act → World → Nat → Prop := fun a w n => ∃ x, p x ∧ m x = n ∧ St E (X x).1 (X x).2.1 (X x).2.2 a w
  intro a w hs
  classical
  refine wpIn_loop (fun a w => ∃ n, q a w n) (fun a w => if hq : ∃ n, q a w n then Classical.choose (least _ hq) else 0) ⟨_, x0, h0, rfl, hs.ag.sub hl, by rw [hS]; exact hs.hp.sub hL, hs.marks⟩ ?_
  intro a w hq
  obtain ⟨⟨x, hp, hm, hst⟩, hle⟩ := Classical.choose_spec (least _ hq)
  refine wpIn_mono (h x hp a w hst) fun e a' w' he => ?_
  cases e with
  | normal =>
    obtain ⟨y, hy, hlt, hst'⟩ := he
    have hq' : ∃ n, q a' w' n := ⟨m y, y, hy, rfl, hst'⟩
    refine ⟨hq', ?_⟩
    rw [dif_pos hq', dif_pos hq]
    have := (Classical.choose_spec (least _ hq')).2 (m y) ⟨y, hy, rfl, hst'⟩
    omega
  | _ => exact he
end

/-! ### Bodies -/
/-- What a function's result variables hold. -/
def ResV (P : Program) (S : Im) (L : List (Nat × HA)) (l : List (Nat × Value)) : List ResultVar → List Value → Prop
  | [], [] => True
  | .tmp t :: rs, v :: vs => lk l t = some v ∧ ResV P S L l rs vs
  | .cell a t :: rs, v :: vs => (∃ ad, lk l a = some (.pointer (some ad)) ∧ ((tAgg P t = some false ∧ Cell S L ad v) ∨ ∃ cs, ad.spot = none ∧ tAgg P t = some true ∧ tSz P t = some cs.length ∧ Cells S L ad cs ∧ v = .agg cs.toArray)) ∧ ResV P S L l rs vs
  | _, _ => False

def mkRes : List Value → Value
  | [v] => v
  | vs => .tuple vs.toArray

section
variable {P : Program} {E : Env} {S : Im} {L : List (Nat × HA)} {l : List (Nat × Value)}

def resOne (tmps : Array Value) : ResultVar → Sem Value
  | .tmp t => pure (tmps.getD t undef)
  | .cell a t => do loadVar t (← asAddr (tmps.getD a undef))

theorem resV_run {a : Act} {w : World} (ha : Ag E.n l a) (hp : Hp E S L w) : ∀ (rs : List ResultVar) (vs : List Value), ResV P S L l rs vs → (rs.mapM (resOne a.tmps)).run P w = .ok vs w
  | [], [], _ => rfl
  | [], _ :: _, h => h.elim
  | .tmp t :: rs, [], h => h.elim
  | .cell _ _ :: rs, [], h => h.elim
  | .tmp t :: rs, v :: vs, h => by
    have ih := resV_run ha hp rs vs h.2
    have := ha.val t v h.1
    simp only [List.mapM_cons, resOne, Sem.run_bind, Sem.run_pure, Result.andThen, ih]
    simp [this]
  | .cell ad' t :: rs, v :: vs, h => by
    have ih := resV_run ha hp rs vs h.2
    obtain ⟨ad, had, hv⟩ := h.1
    have := ha.val ad' _ had
    have e : (resOne a.tmps (.cell ad' t)).run P w = .ok v w := by
      rcases hv with ⟨ht, hc⟩ | ⟨cs, hsp, ht, hs, hc, rfl⟩
      · simp [resOne, this, asAddr, Sem.run_bind, Result.andThen, loadVar, tAgg_run ht, load, Sem.run, hc.cell hp]
      · have hl := run_loadCells_list (P := P) (w := w) ad cs (fun j v hj => (Cells.get hsp hc j v hj).cell hp)
        simp [resOne, this, asAddr, Sem.run_bind, Result.andThen, loadVar, tAgg_run ht, tSz_run hs, Sem.run, hl]
    simp only [List.mapM_cons, Sem.run_bind, e, Sem.run_pure, Result.andThen, ih]

theorem results_run {fn : Func} {a : Act} {w : World} {vs : List Value} (ha : Ag E.n l a) (hp : Hp E S L w) (h : ResV P S L l fn.results.toList vs) : (results fn a.tmps).run P w = .ok (mkRes vs) w := by
  have h1 := resV_run ha hp _ _ h
  have h2 : (fn.results.mapM (resOne a.tmps)).run P w = .ok vs.toArray w := by
    rw [Array.mapM_eq_mapM_toList]
    have e : (List.toArray <$> fn.results.toList.mapM (resOne a.tmps)) = (fn.results.toList.mapM (resOne a.tmps) >>= fun x => pure x.toArray) := rfl
    rw [e]
    simp only [Sem.run_bind, h1, Result.andThen, Sem.run_pure]
  have e3 : results fn a.tmps = (fn.results.mapM (resOne a.tmps) >>= fun vs => pure (if h : vs.size = 1 then vs[0] else .tuple vs)) := rfl
  rw [e3]
  simp only [Sem.run_bind, h2, Result.andThen, Sem.run_pure]
  congr 1
  match vs with
  | [] => rfl
  | [v] => rfl
  | v :: u :: vs => simp [mkRes]

def endR (E : Env) (R : Value → Im → List HA → Prop) (e : Ending) (w' : World) : Prop := ∃ v S' L', e = .returned v ∧ R v S' L' ∧ Hp E S' (kx 0 L') w'
def bodyQ (P : Program) (fn : Func) (E : Env) (R : Value → Im → List HA → Prop) : Exit → Act → World → Prop := bodyPostM (FW none) 9 P fn (endR E R)

theorem leaves_marks {fn : Func} {R : Value → Im → List HA → Prop} {tmps : Array Value} {vs : List Value} {L' : List HA} (hR : R (mkRes vs) S L') {a : Act} (ht : a.tmps = tmps) (ha : Ag E.n l a) (hv : ResV P S L l fn.results.toList vs) (hre : ∀ w, Hp E S L w → Hp E S (kx 0 L') w) :
    ∀ (Ds : List Nat) (w : World), Ds.Nodup → (∀ D ∈ Ds, E.w0.heap.size ≤ D ∧ w.heap[D]? = some (.deferred (some []))) → Hp E S L w → LeavesInM (FW none) 9 P fn tmps (endR E R) (Ds.map mk1) .returning w
  | [], w, _, _, hp => by
    subst ht
    exact ⟨_, results_run ha hp hv, _, S, L', rfl, hR, hre w hp⟩
  | D :: Ds, w, hn, hD, hp => by
    have h0 := hD D (by simp)
    refine ⟨by simp, .inl ⟨D, _, rfl, run_takeDeferred h0.2, ?_⟩⟩
    refine leaves_marks hR ht ha hv hre Ds _ (List.nodup_cons.1 hn).2 (fun D' hD' => ⟨(hD D' (by simp [hD'])).1, ?_⟩) (hp.putObj h0.1 h0.2)
    exact (World.putObj_heap_other (fun e => by subst e; exact (List.nodup_cons.1 hn).1 hD')).trans (hD D' (by simp [hD'])).2

theorem Q_ret {fn : Func} {R : Value → Im → List HA → Prop} {vs : List Value} {L' : List HA} (hv : ResV P S L l fn.results.toList vs) (ks : List Nat) (hs : Sub L (ks.zip L')) (hl : L'.length ≤ ks.length) (hn : ks.Nodup) (hR : R (mkRes vs) S L') :
    ∀ a w, St E S L l a w → bodyQ P fn E R .ret a w := fun a w h => by
  obtain ⟨Ds, e, hnd, hD⟩ := h.marks
  show LeavesInM _ _ _ _ _ _ a.defers _ _
  rw [e]
  exact leaves_marks hR rfl h.ag hv (fun w hp => hp.rekey hs hl hn) Ds w hnd hD h.hp

theorem Q_end {fn : Func} {R : Value → Im → List HA → Prop} {vs : List Value} {L' : List HA} (hv : ResV P S L l fn.results.toList vs) (ks : List Nat) (hs : Sub L (ks.zip L')) (hl : L'.length ≤ ks.length) (hn : ks.Nodup) (hR : R (mkRes vs) S L') :
    ∀ a w, St E S L l a w → bodyQ P fn E R .normal a w := Q_ret hv ks hs hl hn hR

theorem C_freeze {r : Option Nat} {Q : Exit → Act → World → Prop} {c : Code} (k : Nat) {g : Nat} {cs : List Value} {T : TypeId} (hx : lk L k = some (.blk g cs T)) (h : C P E r Q (S.put g (.cells cs.toArray T (0, 0))) ((k, .gone) :: L) l c) : C P E r Q S L l c :=
  fun a w hs => h a w ⟨hs.ag, hs.hp.freeze k hx rfl (hs.hp.own k _ hx).1, hs.marks⟩

theorem Fn_intro {f : FuncId} {fn : Func} {c : Code} {args : List Value} {Lc : List HA} {R : Value → Im → List HA → Prop} (n : Nat) (hf : P.funcs[f]? = some fn) (hb : fn.body = some c) (hn : fn.ntmps = n) (hna : Nat.ble args.length n = true)
    (h : ∀ w0, C P ⟨n, w0, CL Lc, S⟩ none (bodyQ P fn ⟨n, w0, CL Lc, S⟩ R) S (kx 0 Lc) (kx 0 args) c) : Fn P f args S Lc R := by
  intro w hp
  have hna' : args.length ≤ n := by simpa using hna
  refine (callsIn_FW (r := none) (n := 9)).1 ?_
  refine CallsIn.mono ?_ (fun e w' ⟨v, S', L', h1, h2, h3⟩ => ⟨v, S', L', h1, h2, { h3 with }⟩) (R := endR ⟨n, w, CL Lc, S⟩ R)
  refine callsIn_of_wp_marks hf hb trivial (h w _ w ⟨⟨?_, fun i v hi => ?_⟩, ?_, ⟨[], rfl, List.nodup_nil, fun D hD => by cases hD⟩⟩) rfl
  · simp [hn]; omega
  · obtain ⟨j, rfl, hj⟩ := lk_kx hi
    obtain ⟨hj', e⟩ := List.getElem?_eq_some_iff.1 hj
    simp only [Nat.zero_add]
    rw [Array.getElem?_append_left (by simpa using hj')]
    simpa using hj
  · exact { hp with }
end
end Go.Proofs.Ythamgiecgilmdaa
