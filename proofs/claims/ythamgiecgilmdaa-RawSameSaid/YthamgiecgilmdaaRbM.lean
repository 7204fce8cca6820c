/- Operations that lay or change memory. -/
import Derived.Test.YthamgiecgilmdaaRbB
import Derived.Laws.OwnMore
namespace Go.Proofs.Ythamgiecgilmdaa
open Go Go.RowKit

section
variable {P : Program} {E : Env} {S : Im} {L : List (Nat × HA)} {l : List (Nat × Value)} {K : Im → List (Nat × HA) → List (Nat × Value) → Prop}
variable {d : Nat} {dd : Option Nat} {ty : TypeId} {pos : String} {af : Array Edge} {gd : Option (Nat × Bool)}

theorem St.turn {a : Act} {w w' : World} (h : St E S L l a w) {row : Option Nat} (hg : w.grownBy w' row) (k : Nat) (x : HA)
    (hrow : row = none ∨ ∃ x0, lk L k = some x0 ∧ x0.foot = row) (hx : x.holds w') (hf : ∀ g, x.foot = some g → row = some g ∨ w.heap.size ≤ g) : St E S ((k, x) :: L) l a w' :=
  ⟨h.ag, h.hp.turn hg k x hrow hx hf, h.marks.turn h.hp hg k hrow⟩

theorem op_mem {op : Op} (hd : d < E.n) (key : Nat) (hrun : ∀ a w, Ag E.n l a → Hp E S L w → ∃ v w' row x, (execOp a.eval ⟨some d, op, ty, pos, af, gd⟩).run P w = .ok (.value v) w' ∧ w.grownBy w' row ∧
      (row = none ∨ ∃ x0, lk L key = some x0 ∧ x0.foot = row) ∧ x.holds w' ∧ (∀ g, x.foot = some g → row = some g ∨ w.heap.size ≤ g) ∧ K S ((key, x) :: L) ((d, v) :: l)) :
    Op1 P E S L l ⟨some d, op, ty, pos, af, gd⟩ K := by
  intro a w X h hX
  obtain ⟨v, w', row, x, hr, hg, h1, h2, h3, k⟩ := hrun a w h.ag h.hp
  unfold Oper.wp
  rw [hr]
  have h' := h.turn hg key x h1 h2 h3
  exact hX _ _ _ _ _ k ⟨h'.ag.put hd v, h'.hp, h'.marks⟩

theorem holds_new (w : World) (cs : List Value) (T : TypeId) : (HA.blk w.heap.size cs T).holds (w.alloc (.cells cs.toArray T)) := heap_alloc_new w _

theorem op_alloc {t : TypeId} {z : Value} {cs : List Value} (hd : d < E.n) (key : Nat) (hz : tZero P t = some z) (hcs : z.cells = cs.toArray)
    (k : ∀ g, K S ((key, .blk g cs t) :: L) ((d, .pointer (some ⟨g, 0, none⟩)) :: l)) : Op1 P E S L l ⟨some d, .alloc t, ty, pos, af, gd⟩ K :=
  op_mem hd key (fun a w h hp => ⟨.pointer (some ⟨w.heap.size, 0, none⟩), w.alloc (.cells cs.toArray t), none, .blk w.heap.size cs t, by
    simp [execOp, Instr.alloc, Sem.run_bind, tZero_run hz, Result.andThen, newVar, newRow, newObj, Sem.run, hcs], World.grownBy_alloc _ _ _, .inl rfl, holds_new _ _ _, fun g hg => by cases hg; exact .inr (Nat.le_refl _), k _⟩)

theorem op_box {t : TypeId} {x : Operand} {v : Value} {cs : List Value} (hd : d < E.n) (key : Nat) (hx : ev l x = some v) (hcs : v.cells = cs.toArray)
    (k : ∀ g, K S ((key, .blk g cs t) :: L) ((d, .pointer (some ⟨g, 0, none⟩)) :: l)) : Op1 P E S L l ⟨some d, .box t x, ty, pos, af, gd⟩ K :=
  op_mem hd key (fun a w h hp => ⟨.pointer (some ⟨w.heap.size, 0, none⟩), w.alloc (.cells cs.toArray t), none, .blk w.heap.size cs t, by
    simp [execOp, h.ev hx, Instr.box, Sem.run_bind, Result.andThen, newVar, newRow, newObj, Sem.run, hcs], World.grownBy_alloc _ _ _, .inl rfl, holds_new _ _ _, fun g hg => by cases hg; exact .inr (Nat.le_refl _), k _⟩)

/-! #### stores -/
theorem grownBy_setRow (w : World) (g : Nat) (cur : Array Value) : w.grownBy (w.setRow g cur) (some g) :=
  ⟨rfl, rfl, rfl, by simp [World.setRow], fun k _ hne => by
    simp only [World.setRow, Array.getElem?_modify]
    rw [if_neg (fun e => hne (by rw [e]))]⟩

theorem op_store_any {t : TypeId} {x y : Operand} {g off : Nat} {cs : List Value} {T : TypeId} {v : Value} {vs cs' : List Value} (key : Nat) (hx : ev l x = some (.pointer (some ⟨g, off, none⟩))) (hy : ev l y = some v)
    (hvs : v.cells = vs.toArray) (hs : tSz P t = some vs.length) (h1 : ∀ u ∈ vs, u.oneCell' = true) (hL : lk L key = some (.blk g cs T)) (hfit : off + vs.length ≤ cs.length)
    (hcs : cs.take off ++ vs ++ cs.drop (off + vs.length) = cs') (k : K S ((key, .blk g cs' T) :: L) l) : Op1 P E S L l ⟨none, .store t x y, ty, pos, af, gd⟩ K := by
  intro a w X h hX
  have hb : w.heap[g]? = some (.cells cs.toArray T (0, 0)) := (h.hp.own key _ hL).1
  have hst := run_storeCells_at P g off T vs 0 cs.toArray w hb (by simpa using hfit) h1
  simp only [Nat.add_zero, hcs] at hst
  have hg := grownBy_setRow w g cs'.toArray
  have hh : (HA.blk g cs' T).holds (w.setRow g cs'.toArray) := setRow_heap w g _ _ T _ hb
  have h' := h.turn hg key (.blk g cs' T) (.inr ⟨_, hL, rfl⟩) hh (fun g' e => .inl e)
  have hr : (execOp a.eval ⟨none, .store t x y, ty, pos, af, gd⟩).run P w = .ok .skip (w.setRow g cs'.toArray) := by
    simp [execOp, h.ag.ev hx, h.ag.ev hy, Instr.storeAt, Instr.sureAddr, storeVar, Sem.run_bind, tSz_run hs, hvs, Result.andThen, Sem.run, hst]
  unfold Oper.wp
  rw [hr]
  exact hX _ _ _ _ _ k ⟨h'.ag, h'.hp, h'.marks⟩

theorem op_store {t : TypeId} {x y : Operand} {g off : Nat} {cs : List Value} {T : TypeId} {v : Value} (key : Nat) (hx : ev l x = some (.pointer (some ⟨g, off, none⟩))) (hy : ev l y = some v)
    (hv : v.cells = [v].toArray) (hs : tSz P t = some 1) (h1 : v.oneCell' = true) (hL : lk L key = some (.blk g cs T)) (hfit : off < cs.length)
    (k : K S ((key, .blk g (cs.set off v) T) :: L) l) : Op1 P E S L l ⟨none, .store t x y, ty, pos, af, gd⟩ K :=
  op_store_any key hx hy hv hs (by simpa using h1) hL (by simp; omega) (by
    rw [List.set_eq_take_append_cons_drop, if_pos hfit]; simp) k

theorem op_store_agg {t : TypeId} {x y : Operand} {g off : Nat} {cs vs : List Value} {T : TypeId} (key : Nat) (hx : ev l x = some (.pointer (some ⟨g, off, none⟩))) (hy : ev l y = some (.agg vs.toArray))
    (hs : tSz P t = some vs.length) (h1 : ∀ u ∈ vs, u.oneCell' = true) (hL : lk L key = some (.blk g cs T)) (hfit : off + vs.length ≤ cs.length)
    (k : K S ((key, .blk g (cs.take off ++ vs ++ cs.drop (off + vs.length)) T) :: L) l) : Op1 P E S L l ⟨none, .store t x y, ty, pos, af, gd⟩ K :=
  op_store_any key hx hy rfl hs h1 hL hfit rfl k

/-- A store into an owned row. -/
theorem op_store_row {t : TypeId} {x y : Operand} {g off : Nat} {xs : List Value} {T sz n m c : Nat} {v : Value} (key : Nat) (hx : ev l x = some (.pointer (some ⟨g, off, none⟩))) (hy : ev l y = some v)
    (hv : v.cells = [v].toArray) (hs : tSz P t = some 1) (h1 : v.oneCell' = true) (hL : lk L key = some (.row (.slice (some ⟨g, 0, none⟩) m c) T sz n xs)) (hfit : off < xs.length)
    (k : K S ((key, .row (.slice (some ⟨g, 0, none⟩) m c) T sz n (xs.set off v)) :: L) l) : Op1 P E S L l ⟨none, .store t x y, ty, pos, af, gd⟩ K := by
  intro a w X h hX
  have hh : w.ownsRow 0 T sz (.slice (some ⟨g, 0, none⟩) m c) n xs := (h.hp.own key _ hL).1
  obtain ⟨hlen, hor⟩ := hh
  rcases hor with ⟨e, _⟩ | ⟨g', cap, cur, e, hb, hgg, hnc, hcm, hcs, htk⟩
  · cases e
  · injection e with e1 e2 e3
    injection e1 with e1; injection e1 with e1
    subst e1; subst e2; subst e3
    have hlt : off < cur.size := by
      rw [← htk, List.length_take] at hfit; simp at hfit; omega
    have hst := run_storeCells_at P g off T [v] 0 cur w hgg (by simp; omega) (by simpa using h1)
    simp only [Nat.add_zero] at hst
    have hcur : (cur.toList.take off ++ [v] ++ cur.toList.drop (off + [v].length)).toArray = cur.setIfInBounds off v := by
      apply Array.ext'
      rw [Array.toList_setIfInBounds, List.set_eq_take_append_cons_drop, if_pos (by simpa using hlt)]; simp
    rw [hcur] at hst
    have hg := grownBy_setRow w g (cur.setIfInBounds off v)
    have hh' : (HA.row (.slice (some ⟨g, 0, none⟩) m c) T sz m (xs.set off v)).holds (w.setRow g (cur.setIfInBounds off v)) := by
      refine ⟨by simpa using hlen, .inr ⟨g, c, cur.setIfInBounds off v, rfl, Nat.zero_le _, setRow_heap w g _ _ T _ hgg, hnc, hcm, by simpa using hcs, ?_⟩⟩
      rw [Array.toList_setIfInBounds, List.take_set, htk]
    have h' := h.turn hg key _ (.inr ⟨_, hL, rfl⟩) hh' (fun g' e => .inl e)
    have hr : (execOp a.eval ⟨none, .store t x y, ty, pos, af, gd⟩).run P w = .ok .skip (w.setRow g (cur.setIfInBounds off v)) := by
      simp [execOp, h.ag.ev hx, h.ag.ev hy, Instr.storeAt, Instr.sureAddr, storeVar, Sem.run_bind, tSz_run hs, hv, Result.andThen, Sem.run, hst]
    unfold Oper.wp
    rw [hr]
    exact hX _ _ _ _ _ k ⟨h'.ag, h'.hp, h'.marks⟩

/-! #### literals, slices, rows -/
def evps (l : List (Nat × Value)) : List (Nat × Operand) → Option (List (Nat × Value))
  | [] => some []
  | (i, x) :: t => (ev l x).bind fun v => (evps l t).map ((i, v) :: ·)

theorem Ag.evps {n : Nat} {l : List (Nat × Value)} {a : Act} (h : Ag n l a) : ∀ {xs : List (Nat × Operand)} {vs : List (Nat × Value)}, evps l xs = some vs → xs.map (fun p => (p.1, a.eval p.2)) = vs
  | [], vs, e => by simp [Go.Proofs.Ythamgiecgilmdaa.evps] at e; simp [e]
  | (i, x) :: t, vs, e => by
    simp only [Go.Proofs.Ythamgiecgilmdaa.evps, Option.bind_eq_some_iff, Option.map_eq_some_iff] at e
    obtain ⟨v, hv, us, hus, rfl⟩ := e
    simp [h.ev hv, h.evps hus]

/-- A struct's fields: where each stands, and how many cells it has. -/
def tPlaces (P : Program) (t : TypeId) : Option (List (Nat × Nat)) := (P.underlying t).bind fun | .struct fs => fs.toList.mapM fun f => (tSz P f.type).map fun s => (f.offset, s) | _ => none

theorem run_places {w : World} : ∀ (fs : List Field) (ps : List (Nat × Nat)), (fs.mapM fun f => (tSz P f.type).map fun s => (f.offset, s)) = some ps →
    (fs.mapM (m := Sem) fun f => do pure (f.offset, ← sizeOf f.type)).run P w = .ok ps w
  | [], ps, h => by simp at h; subst h; rfl
  | f :: t, ps, h => by
    simp only [List.mapM_cons, Option.bind_eq_bind, Option.bind_eq_some_iff] at h
    obtain ⟨p, hp, qs, hq, he⟩ := h
    simp only [Option.map_eq_some_iff] at hp
    obtain ⟨s, hs, rfl⟩ := hp
    cases he
    have ih := run_places (w := w) t qs hq
    simp only [List.mapM_cons, Sem.run_bind, tSz_run hs, Result.andThen, ih, Sem.run_pure]

theorem pv_build {t : TypeId} {parts : Array (Nat × Operand)} {z : Value} {pl : List (Nat × Nat)} {vs : List (Nat × Value)} {cs : List Value} (hv : evps l parts.toList = some vs) (hz : tZero P t = some z) (hp : tPlaces P t = some pl)
    (hf : Instr.fill (pl.toArray[·]?) z.cells vs = some cs.toArray) : PV P E S L l ⟨dd, .build t parts, ty, pos, af, gd⟩ (.agg cs.toArray) :=
  pv_of (fun a w h => by
    have hv' := h.evps hv
    have e : (parts.map fun (i, x) => (i, a.eval x)).toList = vs := by rw [← hv', Array.toList_map]
    unfold tPlaces at hp
    cases hu : P.underlying t with
    | none => rw [hu] at hp; cases hp
    | some D =>
      rw [hu] at hp
      cases D <;> simp only [Option.bind_some, reduceCtorEq] at hp
      rename_i fs
      have hr := run_places (P := P) (w := w) fs.toList pl hp
      have hr2 : (fs.mapM (m := Sem) fun f => do pure (f.offset, ← sizeOf f.type)).run P w = .ok pl.toArray w := by
        rw [Array.mapM_eq_mapM_toList]
        have e : (List.toArray <$> (fs.toList.mapM (m := Sem) fun f => do pure (f.offset, ← sizeOf f.type))) = ((fs.toList.mapM (m := Sem) fun f => do pure (f.offset, ← sizeOf f.type)) >>= fun x => pure x.toArray) := rfl
        rw [e]
        simp only [Sem.run_bind, hr, Result.andThen, Sem.run_pure]
      simp only [execOp, Instr.build, Sem.run_bind, tZero_run hz, Result.andThen, run_und hu, hr2, e, hf, Sem.run_pure])

theorem fill_zero (sz n : Nat) (z : Array Value) : ((Array.range (n * sz)).map (z[· % z.size]!)) = madeCells z (n * sz) := rfl

/-- A literal of n elements: a new row of the call's own. -/
theorem op_buildSlice {t e : TypeId} {n sz : Nat} {parts : Array (Nat × Operand)} {z : Value} {vs : List (Nat × Value)} {cs : List Value} (hd : d < E.n) (key : Nat) (hv : evps l parts.toList = some vs) (ht : tElem P t = some e) (hs : tSz P e = some sz) (hz : tZero P e = some z)
    (hbig : n * sz ≤ 2 ^ 24) (hn : n ≤ maxLen) (hf : Instr.fill (fun i => some (i * sz, sz)) (if n * sz = 0 then #[] else madeCells z.cells (n * sz)) vs = some cs.toArray) (hlen : cs.length = n * sz)
    (k : ∀ g, K S ((key, .row (.slice (some ⟨g, 0, none⟩) n n) e sz n cs) :: L) ((d, .slice (some ⟨g, 0, none⟩) n n) :: l)) : Op1 P E S L l ⟨some d, .buildSlice t n parts, ty, pos, af, gd⟩ K :=
  op_mem hd key (fun a w h hp => ⟨.slice (some ⟨w.heap.size, 0, none⟩) n n, w.alloc (.cells cs.toArray e), none, .row (.slice (some ⟨w.heap.size, 0, none⟩) n n) e sz n cs, by
    have hv' := h.evps hv
    have e1 : (parts.map fun (i, x) => (i, a.eval x)).toList = vs := by rw [← hv', Array.toList_map]
    have hu := tElem_und ht
    by_cases h0 : n * sz = 0
    · rw [if_pos h0] at hf
      have e0 : (Array.map (fun x => (#[] : Array Value)[x % (#[] : Array Value).size]!) (Array.range (n * sz))) = #[] := by rw [h0]; simp
      simp only [execOp, Instr.buildSlice, Sem.run_bind, run_und hu, Result.andThen, tSz_run hs, if_neg (show ¬ (n * sz > 2 ^ 24) by omega), if_pos h0, Sem.run_pure, e1, e0, hf, newRow, newObj, Sem.run]
      simp [World.alloc_eq]
    · rw [if_neg h0] at hf
      have e0 : (Array.map (fun x => z.cells[x % z.cells.size]!) (Array.range (n * sz))) = madeCells z.cells (n * sz) := rfl
      simp only [execOp, Instr.buildSlice, Sem.run_bind, run_und hu, Result.andThen, tSz_run hs, if_neg (show ¬ (n * sz > 2 ^ 24) by omega), if_neg h0, tZero_run hz, Sem.run_pure, e1, e0, hf, newRow, newObj, Sem.run]
      simp [World.alloc_eq], World.grownBy_alloc _ _ _, .inl rfl,
    by
      have := World.ownsRow_lit (base := 0) (e := e) (size := sz) w cs.toArray n (Nat.zero_le _) hn (by simpa using hlen)
      simpa [HA.holds] using this, fun g hg => by simp [HA.foot, Value.ownBlock] at hg; subst hg; exact .inr (Nat.le_refl _), k _⟩)

theorem op_makeSlice {t e : TypeId} {x y : Operand} {z : Value} {sz by_ : Nat} {k1 k2 : IntKind} {m : Int} (hd : d < E.n) (key : Nat) (hx : ev l x = some (.int k1 m)) (hy : ev l y = some (.int k2 m)) (ht : tElem P t = some e) (hs : tSz P e = some sz) (hz : tZero P e = some z) (hb : tBytes P e = some by_)
    (h0 : 0 ≤ m) (h1 : by_ * m.toNat ≤ 281474976710656) (h2 : m ≤ 9223372036854775807)
    (k : ∀ g, K S ((key, .row (.slice (some ⟨g, 0, none⟩) m.toNat m.toNat) e sz m.toNat (madeCells z.cells (m.toNat * sz)).toList) :: L) ((d, .slice (some ⟨g, 0, none⟩) m.toNat m.toNat) :: l)) : Op1 P E S L l ⟨some d, .makeSlice t x y, ty, pos, af, gd⟩ K :=
  op_mem hd key (fun a w h hp => by
    obtain ⟨n, rfl⟩ := Int.eq_ofNat_of_zero_le h0
    simp only [Int.toNat_natCast] at k h1 ⊢
    unfold tSz at hs; unfold tZero at hz; unfold tBytes at hb
    cases hi : P.info? e with
    | none => rw [hi] at hs; cases hs
    | some i =>
      rw [hi] at hs hz hb
      simp only [Option.map_some, Option.some.injEq, Option.bind_some] at hs hz hb
      obtain ⟨w', hr, how, hg⟩ := run_make_full (P := P) w 0 t e i z sz (tElem_und ht) hi hz hs k1 k2 n (by rw [hb]; exact h1) (by simp only [maxLen]; omega) (Nat.zero_le _)
      refine ⟨_, w', none, .row (.slice (some ⟨w.heap.size, 0, none⟩) n n) e sz n (madeCells z.cells (n * sz)).toList, ?_, hg, .inl rfl, how, fun g hg' => ?_, k _⟩
      · simp [execOp, h.ev hx, h.ev hy, Sem.run_bind, hr, Result.andThen, Sem.run]
      · simp [HA.foot, Value.ownBlock] at hg'; subst hg'; exact .inr (Nat.le_refl _))

/-! #### cuts -/
theorem pv_slice {t e : TypeId} {x : Operand} {lo hi : Option Operand} {A : Option Addr} {n c sz : Nat} {i j : Int} (hx : ev l x = some (.slice A n c)) (ht : tElem P t = some e) (hs : tSz P e = some sz)
    (hlo : (match lo with | none => i = 0 | some y => ∃ ik, ev l y = some (.int ik i))) (hhi : (match hi with | none => j = n | some y => ∃ ik, ev l y = some (.int ik j)))
    (h0 : 0 ≤ i) (h1 : i ≤ j) (h2 : j ≤ c) :
    PV P E S L l ⟨dd, .slice t x lo hi none, ty, pos, af, gd⟩ (.slice (if c = i.toNat then A else A.map (·.add (i.toNat * sz))) (j.toNat - i.toNat) (c - i.toNat)) :=
  pv_of (fun a w h => by
    have hu := tElem_und ht
    cases lo with
    | none =>
      simp only at hlo
      subst hlo
      cases hi with
      | none =>
        simp only at hhi
        subst hhi
        simp [execOp, h.ev hx, Instr.sliceAt, Instr.slice, Instr.sliceBounds, Sem.run_bind, run_und hu, Result.andThen, tSz_run hs, Sem.run]
      | some y =>
        obtain ⟨ik, hy⟩ := hhi
        simp [execOp, h.ev hx, h.ev hy, Instr.sliceAt, Instr.slice, Instr.sliceBounds, Instr.sliceBound, asIntOf, Sem.run_bind, run_und hu, Result.andThen, tSz_run hs, Sem.run, show 0 ≤ j ∧ j ≤ c by omega]
    | some yl =>
      obtain ⟨ikl, hyl⟩ := hlo
      cases hi with
      | none =>
        simp only at hhi
        subst hhi
        simp [execOp, h.ev hx, h.ev hyl, Instr.sliceAt, Instr.slice, Instr.sliceBounds, Instr.sliceBound, asIntOf, Sem.run_bind, run_und hu, Result.andThen, tSz_run hs, Sem.run, show 0 ≤ i ∧ i ≤ n by omega]
      | some y =>
        obtain ⟨ik, hy⟩ := hhi
        simp [execOp, h.ev hx, h.ev hy, h.ev hyl, Instr.sliceAt, Instr.slice, Instr.sliceBounds, Instr.sliceBound, asIntOf, Sem.run_bind, run_und hu, Result.andThen, tSz_run hs, Sem.run, show 0 ≤ j ∧ j ≤ c by omega, show 0 ≤ i ∧ i ≤ j.toNat by omega, show i ≤ max j 0 by omega, h0])

/-! #### append -/
/-- The cells that a slice shows. -/
def SlC (S : Im) (L : List (Nat × HA)) (A : Option Addr) (m c : Nat) (news : List Value) : Prop :=
  (A = none ∧ m = 0 ∧ c = 0 ∧ news = []) ∨ ∃ ad, A = some ad ∧ ∀ j u, news[j]? = some u → Cell S L (ad.add j) u

theorem run_append_place {w w' : World} {t ty e : TypeId} {i : TypeInfo} {z : Value} {sz by_ : Nat} (ht : P.underlying t = some (.slice e)) (hi : P.info? e = some i) (hz : i.zero = some z) (hsz : i.size = sz) (hb : i.bytes = by_)
    {v v' : Value} {n m c : Nat} {xs news : List Value} (how : w.ownsRow 0 e sz v n xs) {ad : Addr} (hlen : news.length = m * sz) (hnews : ∀ j u, news[j]? = some u → w.cell? (ad.add j) = some u) (h1 : ∀ u ∈ news, u.oneCell' = true)
    (b1 : n + m ≤ maxLen) (b2 : (n + m) * by_ ≤ 140737488355328) (hr : (Builtin.append_ #[t, t] ty #[v, .slice (some ad) m c]).run P w = .ok v' w') : ∀ g, v'.ownBlock = some g → v.ownBlock = some g ∨ w.heap.size ≤ g := by
  subst hsz; subst hb
  have hsmall : n + m ≤ 9223372036854775807 := by simp only [maxLen] at b1; omega
  rcases how.2 with ⟨rfl, rfl⟩ | ⟨g, cap, cur, rfl, hbg, hg, hnc, hcm, hcs, htake⟩
  · by_cases hm : m = 0
    · subst hm
      have hn : news = [] := List.eq_nil_of_length_eq_zero (by simpa using hlen)
      have : (Builtin.append_ #[t, t] ty #[.slice none 0 0, .slice (some ad) 0 c]).run P w = .ok (.slice none 0 0) w := by
        simp [Builtin.append_, run_underlying ht, sizeOf, typeInfo, hi, Builtin.lenOf, Builtin.firstCells, loadCells, loadCellsFrom]
      rw [this] at hr; cases hr
      intro g hg; cases hg
    · have := run_append_nil (P := P) w t ty e i z ht hi hz ad m c news hlen hnews (by omega) (by omega) (by have hb := b2; simp only [Nat.zero_add] at hb; omega)
      rw [this] at hr; cases hr
      intro g hg; cases hg; exact .inr (Nat.le_refl _)
  · by_cases hroom : n + m ≤ cap
    · have hfit : n * i.size + news.length ≤ cur.size := by rw [hlen, hcs, ← Nat.add_mul]; exact Nat.mul_le_mul_right _ hroom
      have := run_append_room (P := P) w t ty e i ht hi g n cap cur hg ad m c news hlen hnews h1 hroom hfit
      rw [this] at hr; cases hr
      intro g hg; exact .inl hg
    · have holds : ∀ j u, xs[j]? = some u → w.cell? ((⟨g, 0, none⟩ : Addr).add j) = some u := how.cells (g := g) rfl
      have := run_append_grow (P := P) w t ty e i z ht hi hz ⟨g, 0, none⟩ n cap xs how.1 holds ad m c news hlen hnews (by omega) (by omega) (growslice_fits (by omega) b2)
      rw [this] at hr; cases hr
      intro g hg; cases hg; exact .inr (Nat.le_refl _)

theorem op_append {t e : TypeId} {s x : Operand} {A B : Option Addr} {n cap m c sz by_ : Nat} {z : Value} {xs news : List Value} (hd : d < E.n) (key : Nat) (hs : ev l s = some (.slice A n cap)) (hx : ev l x = some (.slice B m c)) (ht : tElem P t = some e) (hsz : tSz P e = some sz)
    (hz : tZero P e = some z) (hzs : z.cells.size = sz) (h0 : 0 < sz) (hb : tBytes P e = some by_) (hL : lk L key = some (.row (.slice A n cap) e sz n xs)) (hc : SlC S L B m c news) (hlen : news.length = m * sz) (h1 : ∀ u ∈ news, u.oneCell' = true)
    (b1 : n + m ≤ 9223372036854775807) (b2 : (n + m) * by_ ≤ 140737488355328)
    (k : ∀ A' c', n + m ≤ c' → (n + m = 0 ∧ A' = none ∧ c' = 0 ∨ ∃ g, A' = some ⟨g, 0, none⟩) → K S ((key, .row (.slice A' (n + m) c') e sz (n + m) (xs ++ news)) :: L) ((d, .slice A' (n + m) c') :: l)) :
    Op1 P E S L l ⟨some d, .call ⟨.builtin .append, #[s, x], #[t, t]⟩, ty, pos, af, gd⟩ K :=
  op_mem hd key (fun a w h hp => by
    have how : w.ownsRow 0 e sz (.slice A n cap) n xs := (hp.own key _ hL).1
    unfold tSz at hsz; unfold tZero at hz; unfold tBytes at hb
    cases hi : P.info? e with
    | none => rw [hi] at hsz; cases hsz
    | some i =>
      rw [hi] at hsz hz hb
      simp only [Option.map_some, Option.some.injEq, Option.bind_some] at hsz hz hb
      have shape : ∀ {v' : Value} {w' : World} {k' : Nat} {ys : List Value}, w'.ownsRow 0 e sz v' k' ys → ∃ A' c', v' = .slice A' k' c' ∧ k' ≤ c' ∧ (k' = 0 ∧ A' = none ∧ c' = 0 ∨ ∃ g, A' = some ⟨g, 0, none⟩) := fun hh => by
        rcases hh.2 with ⟨rfl, rfl⟩ | ⟨g, cap', cur, rfl, _, _, hle, _⟩
        · exact ⟨none, 0, rfl, Nat.le_refl _, .inl ⟨rfl, rfl, rfl⟩⟩
        · exact ⟨some ⟨g, 0, none⟩, cap', rfl, hle, .inr ⟨g, rfl⟩⟩
      rcases hc with ⟨rfl, rfl, rfl, rfl⟩ | ⟨ad, rfl, hcell⟩
      · have hr := run_append_owned_none (P := P) w 0 t ty e i sz (tElem_und ht) hi _ _ _ how
        obtain ⟨A', c', e', hle, hA⟩ := shape how
        injection e' with e1 _ e3
        subst e1; subst e3
        refine ⟨.slice A n cap, w, (Value.slice A n cap).ownBlock, .row (.slice A n cap) e sz n (xs ++ []), ?_, ⟨rfl, rfl, rfl, Nat.le_refl _, fun _ _ _ => rfl⟩, .inr ⟨_, hL, rfl⟩, by simpa [HA.holds] using how, fun g hg => .inl hg, k A cap hle hA⟩
        simp [execOp, resolve, invoke, builtin, h.ev hs, h.ev hx, hr, Sem.run_bind, Result.andThen, Sem.run]
      · obtain ⟨v', w', hr, ho', hg', _⟩ := run_append_own (P := P) w 0 t ty e i z sz by_ (tElem_und ht) hi hz hsz hb hzs h0 _ _ _ how ad m c news hlen (fun j u hj => (hcell j u hj).cell hp) h1 (by simp only [maxLen]; omega) b2 (Nat.zero_le _)
        obtain ⟨A', c', rfl, hle, hA⟩ := shape ho'
        refine ⟨_, w', (Value.slice A n cap).ownBlock, .row (.slice A' (n + m) c') e sz (n + m) (xs ++ news), ?_, hg', .inr ⟨_, hL, rfl⟩, ho', ?_, k A' c' hle hA⟩
        · simp [execOp, resolve, invoke, builtin, h.ev hs, h.ev hx, hr, Sem.run_bind, Result.andThen, Sem.run]
        · exact fun g hg' => run_append_place (tElem_und ht) hi hz hsz hb how hlen (fun j u hj => (hcell j u hj).cell hp) h1 (by simp only [maxLen]; omega) b2 hr g hg')
end
end Go.Proofs.Ythamgiecgilmdaa
