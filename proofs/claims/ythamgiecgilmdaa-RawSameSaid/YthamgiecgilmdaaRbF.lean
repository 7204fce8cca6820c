/- Contracts of functions, and the operation that calls one. -/
import Derived.Test.YthamgiecgilmdaaRbM
namespace Go.Proofs.Ythamgiecgilmdaa
open Go Go.RowKit

def kx {α : Type} : Nat → List α → List (Nat × α)
  | _, [] => []
  | i, x :: t => (i, x) :: kx (i + 1) t

theorem lk_kx {α : Type} {k : Nat} {x : α} : ∀ {i : Nat} {Lc : List α}, lk (kx i Lc) k = some x → ∃ j, k = i + j ∧ Lc[j]? = some x
  | i, [], h => by simp [kx, lk] at h
  | i, y :: t, h => by
    by_cases e : k = i
    · subst e; rw [kx, lk_same] at h; cases h; exact ⟨0, by omega, rfl⟩
    · rw [kx, lk_ne _ _ e] at h
      obtain ⟨j, rfl, hj⟩ := lk_kx h
      exact ⟨j + 1, by omega, by simpa using hj⟩

theorem kx_lk {α : Type} {x : α} : ∀ {i j : Nat} {Lc : List α}, Lc[j]? = some x → lk (kx i Lc) (i + j) = some x
  | i, j, [], h => by simp at h
  | i, 0, y :: t, h => by simp at h; subst h; rw [kx]; exact lk_same _ _ _
  | i, j + 1, y :: t, h => by
    rw [kx, lk_ne _ _ (by omega), show i + (j + 1) = (i + 1) + j by omega]
    exact kx_lk (by simpa using h)

theorem lk_append {α : Type} (i : Nat) (l2 : List (Nat × α)) : ∀ l1 : List (Nat × α), lk (l1 ++ l2) i = (lk l1 i).or (lk l2 i)
  | [] => rfl
  | (j, v) :: t => by
    by_cases e : i = j
    · subst e; rw [List.cons_append, lk_same, lk_same]; rfl
    · rw [List.cons_append, lk_ne _ _ e, lk_ne _ _ e]; exact lk_append i l2 t

theorem lk_zip {α : Type} {k : Nat} {x : α} : ∀ {ks : List Nat} {xs : List α}, lk (ks.zip xs) k = some x → ∃ j : Nat, ks[j]? = some k ∧ xs[j]? = some x
  | [], _, h => by simp [lk] at h
  | _ :: _, [], h => by simp [lk] at h
  | q :: ks, y :: xs, h => by
    rw [List.zip_cons_cons] at h
    by_cases e : k = q
    · subst e; rw [lk_same] at h; cases h; exact ⟨0, rfl, rfl⟩
    · rw [lk_ne _ _ e] at h
      obtain ⟨j, h1, h2⟩ := lk_zip h
      exact ⟨j + 1, by simpa using h1, by simpa using h2⟩

theorem lk_zip_none {α : Type} {k : Nat} : ∀ {ks : List Nat} {xs : List α}, ks.length = xs.length → lk (ks.zip xs) k = none → k ∉ ks
  | [], _, _, _ => by simp
  | _ :: _, [], h, _ => by simp at h
  | q :: ks, y :: xs, hl, h => by
    rw [List.zip_cons_cons] at h
    by_cases e : k = q
    · subst e; rw [lk_same] at h; cases h
    · rw [lk_ne _ _ e] at h
      have := lk_zip_none (by simpa using hl) h
      simp [e, this]

theorem sub_zip {α : Type} {L : List (Nat × α)} {x : α} : ∀ {ks : List Nat} {xs : List α} {j : Nat}, Sub L (ks.zip xs) → xs.length ≤ ks.length → xs[j]? = some x → ∃ k, ks[j]? = some k ∧ lk L k = some x
  | _, [], j, _, _, h => by simp at h
  | [], y :: xs, j, _, hl, _ => by simp at hl
  | q :: ks, y :: xs, 0, hs, _, h => by simp at h; subst h; exact ⟨q, rfl, hs.1⟩
  | q :: ks, y :: xs, j + 1, hs, hl, h => by
    obtain ⟨k, h1, h2⟩ := sub_zip (ks := ks) (xs := xs) (j := j) hs.2 (by simpa using hl) (by simpa using h)
    exact ⟨k, by simpa using h1, h2⟩

theorem nodup_inj {k : Nat} : ∀ {ks : List Nat} {i j : Nat}, ks.Nodup → ks[i]? = some k → ks[j]? = some k → i = j
  | [], i, j, _, h, _ => by simp at h
  | q :: ks, 0, 0, _, _, _ => rfl
  | q :: ks, 0, j + 1, hn, h, h' => by
    simp at h h'; subst h
    exact absurd (List.mem_of_getElem? h') (List.nodup_cons.1 hn).1
  | q :: ks, i + 1, 0, hn, h, h' => by
    simp at h h'; subst h'
    exact absurd (List.mem_of_getElem? h) (List.nodup_cons.1 hn).1
  | q :: ks, i + 1, j + 1, hn, h, h' => by
    have e : i = j := nodup_inj (List.nodup_cons.1 hn).2 (by simpa using h) (by simpa using h')
    rw [e]

def CL (Lc : List HA) (b : Nat) : Prop := ∃ x ∈ Lc, x.foot = some b

/-- A contract: from any world that has S, and what the call is handed to own, the call ends and hands back v, S' and what it leaves to own (what it was handed first). -/
def Fn (P : Program) (f : FuncId) (args : List Value) (S : Im) (Lc : List HA) (R : Value → Im → List HA → Prop) : Prop :=
  ∀ w, Hp ⟨0, w, CL Lc, S⟩ S (kx 0 Lc) w → Calls P f args.toArray w fun e w' => ∃ v S' L', e = .returned v ∧ R v S' L' ∧ Hp ⟨0, w, CL Lc, S⟩ S' (kx 0 L') w'

theorem Fn.mono {P : Program} {f : FuncId} {args : List Value} {S : Im} {Lc : List HA} {R R' : Value → Im → List HA → Prop} (h : Fn P f args S Lc R) (hr : ∀ v S' L', R v S' L' → R' v S' L') : Fn P f args S Lc R' :=
  fun w hw => (h w hw).mono fun e w' ⟨v, S', L', h1, h2, h3⟩ => ⟨v, S', L', h1, hr _ _ _ h2, h3⟩

section
variable {E : Env} {S S' : Im} {L : List (Nat × HA)} {w w' : World} {ks : List Nat} {Lc L' : List HA}

theorem Hp.pre (h : Hp E S L w) (hs : Sub L (ks.zip Lc)) (hl : Lc.length ≤ ks.length) (hn : ks.Nodup) : Hp ⟨0, w, CL Lc, S⟩ S (kx 0 Lc) w := by
  refine ⟨rfl, rfl, rfl, Nat.le_refl _, fun _ _ _ => rfl, h.im, h.imc, fun b cs T fr h1 h2 => (by rw [show S b = none from h2] at h1; cases h1), fun _ _ h => h, fun _ _ h => .inl h, fun k x hx => ?_, fun i j x x' g hij hx hx' hg hg' => ?_⟩
  · obtain ⟨j, rfl, hj⟩ := lk_kx hx
    obtain ⟨k, _, hk⟩ := sub_zip hs hl hj
    exact ⟨(h.own k x hk).1, fun g hg => ⟨((h.own k x hk).2 g hg).1, .inr ⟨x, List.mem_of_getElem? hj, hg⟩⟩⟩
  · obtain ⟨i, rfl, hi⟩ := lk_kx hx
    obtain ⟨j, rfl, hj⟩ := lk_kx hx'
    obtain ⟨k, hk1, hk⟩ := sub_zip hs hl hi
    obtain ⟨k', hk1', hk'⟩ := sub_zip hs hl hj
    refine h.apart k k' x x' g (fun e => hij ?_) hk hk' hg hg'
    subst e
    have e := nodup_inj hn hk1 hk1'
    rw [e]

theorem Hp.caught (h : Hp E S L w) (hs : Sub L (ks.zip Lc)) (hl : Lc.length ≤ ks.length) {b : Nat} (hb : CL Lc b) : ∃ k x, k ∈ ks ∧ lk L k = some x ∧ x.foot = some b := by
  obtain ⟨x, hx, hf⟩ := hb
  obtain ⟨j, hj⟩ := List.getElem?_of_mem hx
  obtain ⟨k, hk1, hk⟩ := sub_zip hs hl hj
  exact ⟨k, x, List.mem_of_getElem? hk1, hk, hf⟩

theorem Hp.post (h : Hp E S L w) (hs : Sub L (ks.zip Lc)) (hl : Lc.length ≤ ks.length) (hn : ks.Nodup) (hl' : L'.length = ks.length) (h' : Hp ⟨0, w, CL Lc, S⟩ S' (kx 0 L') w') : Hp E S' (ks.zip L' ++ L) w' := by
  have hlt : ∀ {b}, CL Lc b → E.w0.heap.size ≤ b ∨ E.C b := fun hb => by
    obtain ⟨k, x, _, hk, hf⟩ := h.caught hs hl hb
    exact ((h.own k x hk).2 _ hf).2
  have hold : ∀ {k x}, k ∉ ks → lk L k = some x → ∀ g, x.foot = some g → g < w.heap.size ∧ ¬ CL Lc g := fun {k x} hk hx g hg => by
    refine ⟨HA.lt (h.own k x hx).1 hg, fun hc => ?_⟩
    obtain ⟨k', x', hk', hx', hf'⟩ := h.caught hs hl hc
    exact h.apart k k' x x' g (fun e => hk (e ▸ hk')) hx hx' hg hf'
  have hnew : ∀ {j : Nat} {x : HA}, L'[j]? = some x → x.holds w' ∧ ∀ g, x.foot = some g → S' g = none ∧ (w.heap.size ≤ g ∨ CL Lc g) := fun {j x} hj => by
    have hk := kx_lk (i := 0) hj
    exact h'.own _ x hk
  have hcase : ∀ {k x}, lk (ks.zip L' ++ L) k = some x → (∃ j : Nat, ks[j]? = some k ∧ L'[j]? = some x) ∨ (k ∉ ks ∧ lk L k = some x) := fun {k x} hk => by
    rw [lk_append] at hk
    cases hz : lk (ks.zip L') k with
    | some y => rw [hz] at hk; cases hk; exact .inl (lk_zip hz)
    | none => rw [hz] at hk; exact .inr ⟨lk_zip_none hl'.symm hz, hk⟩
  refine ⟨h'.os.trans h.os, h'.tape.trans h.tape, h'.output.trans h.output, Nat.le_trans h.size h'.size, fun b hb hC => ?_, h'.im, h'.imc, fun b cs T fr h1 h2 => (by
    cases hS : S b with
    | none => exact h'.soft b cs T fr h1 hS
    | some o =>
      have h3 : S' b = some o := h'.le b o hS
      rw [h1] at h3; cases h3
      exact h.soft b cs T fr hS h2), fun b o hb => h'.le b o (h.le b o hb), fun b o hb => ?_, fun k x hx => ?_, fun i j x x' g hij hx hx' hg hg' => ?_⟩
  · refine (h'.frame b (Nat.lt_of_lt_of_le hb h.size) (fun hc => ?_)).trans (h.frame b hb hC)
    rcases hlt hc with h1 | h1
    · omega
    · exact hC h1
  · rcases h'.new b o hb with h1 | h1 | h1
    · exact h.new b o h1
    · exact .inr (.inl (Nat.le_trans h.size h1))
    · exact .inr (hlt h1)
  · rcases hcase hx with ⟨j, _, hj⟩ | ⟨hk, hx⟩
    · refine ⟨(hnew hj).1, fun g hg => ⟨((hnew hj).2 g hg).1, ?_⟩⟩
      rcases ((hnew hj).2 g hg).2 with h1 | h1
      · exact .inl (Nat.le_trans h.size h1)
      · exact hlt h1
    · refine ⟨HA.kept (h.own k x hx).1 (fun g hg => h'.frame g (hold hk hx g hg).1 (hold hk hx g hg).2), fun g hg => ⟨?_, ((h.own k x hx).2 g hg).2⟩⟩
      cases hS : S' g with
      | none => rfl
      | some o =>
        rcases h'.new g o hS with h1 | h1 | h1
        · have h2 : S g = some o := h1
          rw [((h.own k x hx).2 g hg).1] at h2; cases h2
        · have h2 : w.heap.size ≤ g := h1
          have := (hold hk hx g hg).1; omega
        · exact ((hold hk hx g hg).2 h1).elim
  · rcases hcase hx with ⟨a, ha, hxa⟩ | ⟨hi, hxi⟩
    · rcases hcase hx' with ⟨b, hb, hxb⟩ | ⟨hj, hxj⟩
      · refine h'.apart a b x x' g (fun e => hij ?_) (by simpa using kx_lk (i := 0) hxa) (by simpa using kx_lk (i := 0) hxb) hg hg'
        subst e; rw [ha] at hb; cases hb; rfl
      · rcases ((hnew hxa).2 g hg).2 with h1 | h1
        · have := (hold hj hxj g hg').1; omega
        · exact (hold hj hxj g hg').2 h1
    · rcases hcase hx' with ⟨b, hb, hxb⟩ | ⟨hj, hxj⟩
      · rcases ((hnew hxb).2 g hg').2 with h1 | h1
        · have := (hold hi hxi g hg).1; omega
        · exact (hold hi hxi g hg).2 h1
      · exact h.apart i j x x' g hij hxi hxj hg hg'

theorem Mk.post {B : Nat} {ds : List Deferred} (m : Mk B ds w) (h : Hp E S L w) (hs : Sub L (ks.zip Lc)) (hl : Lc.length ≤ ks.length) (h' : Hp ⟨0, w, CL Lc, S⟩ S' (kx 0 L') w') : Mk B ds w' := m.kept fun D hD => by
  refine h'.frame D (Array.getElem?_eq_some_iff.1 hD).1 (fun hc => ?_)
  obtain ⟨k, x, _, hk, hf⟩ := h.caught hs hl hc
  obtain ⟨cs, T, hcs⟩ := HA.cells_of (h.own k x hk).1 hf
  rw [hcs] at hD; cases hD

/-- What a function hands back, by its own keys, in the contract's order. -/
theorem Hp.rekey (h : Hp E S L w) (hs : Sub L (ks.zip Lc)) (hl : Lc.length ≤ ks.length) (hn : ks.Nodup) : Hp E S (kx 0 Lc) w := by
  refine { h with own := fun k x hx => ?_, apart := fun i j x x' g hij hx hx' hg hg' => ?_ }
  · obtain ⟨j, rfl, hj⟩ := lk_kx hx
    obtain ⟨k, _, hk⟩ := sub_zip hs hl hj
    exact h.own k x hk
  · obtain ⟨i, rfl, hi⟩ := lk_kx hx
    obtain ⟨j, rfl, hj⟩ := lk_kx hx'
    obtain ⟨k, hk1, hk⟩ := sub_zip hs hl hi
    obtain ⟨k', hk1', hk'⟩ := sub_zip hs hl hj
    refine h.apart k k' x x' g (fun e => hij ?_) hk hk' hg hg'
    subst e
    have e := nodup_inj hn hk1 hk1'
    rw [e]
end

section
variable {P : Program} {E : Env} {S : Im} {L : List (Nat × HA)} {l : List (Nat × Value)} {K : Im → List (Nat × HA) → List (Nat × Value) → Prop}
variable {ty : TypeId} {pos : String} {af : Array Edge} {gd : Option (Nat × Bool)}

theorem op_call {dst : Option Nat} {x : Operand} {args : Array Operand} {at_ : Array TypeId} {f : FuncId} {us vs cs all : List Value} {Lc : List HA} {R : Value → Im → List HA → Prop}
    (hd : ∀ d, dst = some d → d < E.n) (hx : ev l x = some (.func (.func f) us.toArray cs.toArray)) (hv : evs l args.toList = some vs) (hall : us ++ vs ++ cs = all) (he : ∀ args w, (callFunc f args).run P w = .ok (.enter f args) w)
    (hF : Fn P f all S Lc R) (ks : List Nat) (hs : Sub L (ks.zip Lc)) (hl : Lc.length ≤ ks.length) (hn : ks.Nodup)
    (k : ∀ v S' L', R v S' L' → (∀ b o, S b = some o → S' b = some o) → L'.length = ks.length ∧ K S' (ks.zip L' ++ L) (match dst with | some d => (d, v) :: l | none => l)) :
    Op1 P E S L l ⟨dst, .call ⟨.value x, args, at_⟩, ty, pos, af, gd⟩ K := by
  intro a w X h hX
  have hr : (execOp a.eval ⟨dst, .call ⟨.value x, args, at_⟩, ty, pos, af, gd⟩).run P w = .ok (.enter f all.toArray) w := by
    have h2 : args.map a.eval = vs.toArray := by rw [← h.ag.evs hv, ← Array.toList_map]
    subst hall
    simp [execOp, resolve, h.ag.ev hx, h2, Deferred.ofValue, invoke, Sem.run_bind, Result.andThen, Sem.run, he]
  unfold Oper.wp
  rw [hr]
  refine (hF w (h.hp.pre hs hl hn)).mono ?_
  rintro e w' ⟨v, S', L', rfl, hR, hp'⟩
  obtain ⟨hl', hk⟩ := k v S' L' hR (fun b o hb => hp'.le b o hb)
  have hh := h.hp.post hs hl hn hl' hp'
  have hm := h.marks.post h.hp hs hl hp'
  cases dst with
  | none => exact hX _ _ _ _ _ hk ⟨h.ag, hh, hm⟩
  | some d => exact hX _ _ _ _ _ hk ⟨h.ag.put (hd d rfl) v, hh, hm⟩
end
end Go.Proofs.Ythamgiecgilmdaa
