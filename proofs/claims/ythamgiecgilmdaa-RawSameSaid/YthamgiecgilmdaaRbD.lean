/- Regions that draw their order: what only reads is taken first; the rest in every order that is left. -/
import Derived.Test.YthamgiecgilmdaaRbT
namespace Go.Proofs.Ythamgiecgilmdaa
open Go Go.RowKit

/-- Whatever order is picked from here on; H holds behind every operation that is carried out, but for the late ones (from number m on). -/
def wpL (P : Program) (ops : Array Oper) (Q : Exit → Act → World → Prop) (H : World → Prop) (m : Nat) : Nat → Array Bool → Act → World → Prop
  | 0, listed, a, w => Region.ready .any ops listed = [] ∧ Q .normal a w
  | fuel + 1, listed, a, w => (Region.ready .any ops listed = [] → Q .normal a w) ∧
    ∀ i ∈ Region.ready .any ops listed, wpOp P ops Q i (fun a' w' => (i < m → H w') ∧ wpL P ops Q H m fuel (listed.setIfInBounds i true) a' w') a w

section
variable {P : Program} {ops : Array Oper} {Q : Exit → Act → World → Prop} {H : World → Prop} {m : Nat}

theorem wpAny_of_late : ∀ (fuel : Nat) (listed : Array Bool) (a : Act) (w : World), wpL P ops Q H m fuel listed a w → wpAny P .any ops Q fuel listed a w
  | 0, _, _, _, h => h
  | fuel + 1, _, _, _, h => ⟨h.1, fun i hi => wpOp_mono (fun a' w' h' => wpAny_of_late fuel _ a' w' h'.2) (h.2 i hi)⟩

/-- What waits for number i. -/
def waits (ops : Array Oper) (i j : Nat) : Bool := match ops[j]? with | some oj => oj.after.any (fun e => Region.binds .any e && e.on == i) | none => false
/-- All late ones wait for number i. -/
def lateOk (ops : Array Oper) (m i : Nat) : Bool := (List.range ops.size).all fun j => Nat.blt j m || Nat.beq j i || waits ops i j

theorem wpL_first {i : Nat} {oi : Oper} {v : Value} (hi : ops[i]? = some oi) (hsel : ∀ (j : Nat) (o : Oper) cs b, ops[j]? = some o → o.op ≠ .select cs b) (hQ : ∀ c a w, Q (.panic c) (a.put oi.dst v) w → Q (.panic c) a w)
    (hlate : lateOk ops m i = true) : ∀ (fuel : Nat) (listed : Array Bool) (a : Act) (w : World),
      (∀ j oj, ops[j]? = some oj → j ≠ i → listed.getD j true = false → (∀ e ∈ oj.after, Region.binds .any e = true → e.on ≠ i) → oi.apart ops oj = true) →
      i ∈ Region.ready .any ops listed → YieldsIf P ops H oi v a → H w → wpL P ops Q H m fuel (listed.setIfInBounds i true) (a.put oi.dst v) w → wpL P ops Q H m (fuel + 1) listed a w := by
  intro fuel
  induction fuel with
  | zero =>
    intro listed a w _ hr hy hH K
    refine ⟨fun h => (by rw [h] at hr; cases hr), fun j hj => ?_⟩
    by_cases hji : j = i
    · subst hji; exact hy.wpOp hi hH ⟨fun _ => hH, K⟩
    · have := ready_mono hj hji
      rw [K.1] at this
      cases this
  | succ fuel ih =>
    intro listed a w hfree hr hy hH K
    refine ⟨fun h => (by rw [h] at hr; cases hr), fun j hj => ?_⟩
    by_cases hji : j = i
    · subst hji; exact hy.wpOp hi hH ⟨fun _ => hH, K⟩
    · have h1 := K.2 j (ready_mono hj hji)
      obtain ⟨hjun, oj, hoj, hall⟩ := mem_ready.1 hj
      have hnot : ∀ e ∈ oj.after, Region.binds .any e = true → e.on ≠ i := fun e he hb heq => by
        have h1 := hall e he hb
        have h0 := (mem_ready.1 hr).1
        rw [heq] at h1
        rcases Nat.lt_or_ge i listed.size with h' | h'
        · simp [h'] at h0 h1; rw [h0] at h1; cases h1
        · simp [Array.getElem?_eq_none h'] at h1
      have hjm : j < m := by
        have hjs : j < ops.size := (Array.getElem?_eq_some_iff.1 hoj).1
        have h2 := List.all_eq_true.1 hlate j (List.mem_range.2 hjs)
        simp only [Bool.or_eq_true] at h2
        rcases h2 with (h2 | h2) | h2
        · simpa [Nat.blt_eq] using h2
        · exact absurd (Nat.eq_of_beq_eq_true h2) hji
        · simp only [waits, hoj] at h2
          obtain ⟨e, he, hb⟩ := Array.any_eq_true'.1 h2
          simp only [Bool.and_eq_true, beq_iff_eq] at hb
          exact absurd hb.2 (hnot e he hb.1)
      have h2 := wpOp_putIf hoj (hfree j oj hoj hji hjun hnot) (fun cs b => hsel i oi cs b hi) (fun cs b => hsel j oj cs b hoj) hQ hy h1
      have hfree' : ∀ k ok, ops[k]? = some ok → k ≠ i → (listed.setIfInBounds j true).getD k true = false → (∀ e ∈ ok.after, Region.binds .any e = true → e.on ≠ i) → oi.apart ops ok = true := fun k ok hk hki hun hno => by
        refine hfree k ok hk hki ?_ hno
        by_cases hjk : j = k
        · subst hjk; exact hjun
        · rw [getD_set_ne true hjk] at hun; exact hun
      refine wpOp_mono (fun a' w' h3 => ⟨h3.2.1, ih (listed.setIfInBounds j true) a' w' hfree' (ready_mono hr (Ne.symm hji)) h3.1 (h3.2.1 hjm) ?_⟩) h2
      rw [Array.setIfInBounds_comm _ _ hji]
      exact h3.2.2
end

def A (P : Program) (E : Env) (ops : Array Oper) (Q : Exit → Act → World → Prop) (H : World → Prop) (m : Nat) (S : Im) (L : List (Nat × HA)) (l : List (Nat × Value)) (listed : Array Bool) (fuel : Nat) : Prop :=
  ∀ a w, St E S L l a w → wpL P ops (onlyN Q) H m fuel listed a w

section
variable {P : Program} {E : Env} {ops : Array Oper} {Q : Exit → Act → World → Prop} {H : World → Prop} {m : Nat} {S : Im} {L : List (Nat × HA)} {l : List (Nat × Value)} {listed : Array Bool} {fuel : Nat}

theorem C_draw {r : Option Nat} {id : Nat} {ol : List Oper} (H : World → Prop) (m : Nat) (hm : P.follows .mixedOrders = true) (hd : noDefer ol.toArray = true) (h : (∀ b o, E.S0 b = some o → S b = some o) → A P E ol.toArray Q H m S L l (Array.replicate ol.length false) ol.length) : C P E r Q S L l (.region id ol.toArray true) := by
  intro a w hs
  refine wpIn_region_draw fun t => wpOps_in hd _ a _ ?_
  simp only [Region.schedule, hm, Bool.true_or, if_true]
  have hs' : St E S L l a { w with drawn := w.drawn + 1 } := ⟨hs.ag, hs.hp.same rfl rfl rfl rfl, hs.marks⟩
  have := wpAny_of_late _ _ _ _ (h (fun b o hb => hs.hp.le b o hb) a _ hs')
  exact wpAny_sound ol.length t _ a _ this

/-- Number i, which only makes a value whatever else has come up, comes first. -/
theorem A_take0 {i d : Nat} {op : Op} {ty : TypeId} {pos : String} {af : Array Edge} {gd : Option (Nat × Bool)} {v : Value} (hi : ops[i]? = some ⟨some d, op, ty, pos, af, gd⟩) (hc : (Region.noSelect ops && (Region.free .any ops listed i && ((Region.ready .any ops listed).contains i && lateOk ops m i))) = true)
    (hH : ∀ w, Hp E S L w → H w) (hd : Nat.blt d E.n = true) (hy : ∀ a, Ag E.n l a → YieldsIf P ops H ⟨some d, op, ty, pos, af, gd⟩ v a)
    (k : A P E ops Q H m S L ((d, v) :: l) (listed.setIfInBounds i true) fuel) : A P E ops Q H m S L l listed (fuel + 1) := by
  intro a w hs
  simp only [Bool.and_eq_true] at hc
  exact wpL_first hi (Region.noSelect_spec hc.1) (fun _ _ _ h => h) hc.2.2.2 fuel listed a w (Region.free_spec hi hc.2.1) (by simpa using hc.2.2.1) (hy a hs.ag) (hH w hs.hp) (k _ w ⟨hs.ag.put (by simpa [Nat.blt_eq] using hd) v, hs.hp, hs.marks⟩)

theorem A_take {Sh : Im} {Lh : List (Nat × HA)} {i d : Nat} {op : Op} {ty : TypeId} {pos : String} {af : Array Edge} {v : Value} (hi : ops[i]? = some ⟨some d, op, ty, pos, af, none⟩) (hc : (Region.noSelect ops && (Region.free .any ops listed i && ((Region.ready .any ops listed).contains i && lateOk ops m i))) = true)
    (hH : ∀ w, Hp E S L w → Hp E Sh Lh w) (hd : Nat.blt d E.n = true) (hy : PV P E Sh Lh l ⟨some d, op, ty, pos, af, none⟩ v)
    (k : A P E ops Q (Hp E Sh Lh) m S L ((d, v) :: l) (listed.setIfInBounds i true) fuel) : A P E ops Q (Hp E Sh Lh) m S L l listed (fuel + 1) :=
  A_take0 hi hc hH hd (fun a ha => .inl ⟨rfl, fun w hw => hy a w ha hw⟩) k

theorem A_takey {Sh : Im} {Lh : List (Nat × HA)} {i d : Nat} {op : Op} {ty : TypeId} {pos : String} {af : Array Edge} {j dj : Nat} {b want : Bool} {v : Value} (hi : ops[i]? = some ⟨some d, op, ty, pos, af, some (j, want)⟩) (hc : (Region.noSelect ops && (Region.free .any ops listed i && ((Region.ready .any ops listed).contains i && lateOk ops m i))) = true)
    (hH : ∀ w, Hp E S L w → Hp E Sh Lh w) (hd : Nat.blt d E.n = true) (hj : gslot ops j = some dj) (hv : lk l dj = some (.bool b)) (hb : b = want) (hy : PV P E Sh Lh l ⟨some d, op, ty, pos, af, some (j, want)⟩ v)
    (k : A P E ops Q (Hp E Sh Lh) m S L ((d, v) :: l) (listed.setIfInBounds i true) fuel) : A P E ops Q (Hp E Sh Lh) m S L l listed (fuel + 1) :=
  A_take0 hi hc hH hd (fun a ha => .inl ⟨by simp [Region.wanted, yielded_of hj hv ha, hb], fun w hw => hy a w ha hw⟩) k

theorem A_taken {Sh : Im} {Lh : List (Nat × HA)} {i d : Nat} {op : Op} {ty : TypeId} {pos : String} {af : Array Edge} {j dj : Nat} {b want : Bool} (hi : ops[i]? = some ⟨some d, op, ty, pos, af, some (j, want)⟩) (hc : (Region.noSelect ops && (Region.free .any ops listed i && ((Region.ready .any ops listed).contains i && lateOk ops m i))) = true)
    (hH : ∀ w, Hp E S L w → Hp E Sh Lh w) (hd : Nat.blt d E.n = true) (hj : gslot ops j = some dj) (hv : lk l dj = some (.bool b)) (hb : b = !want)
    (k : A P E ops Q (Hp E Sh Lh) m S L ((d, undef) :: l) (listed.setIfInBounds i true) fuel) : A P E ops Q (Hp E Sh Lh) m S L l listed (fuel + 1) :=
  A_take0 hi hc hH hd (fun a ha => .inr ⟨by simp [Region.wanted, yielded_of hj hv ha, hb], rfl⟩) k

theorem A_takeu {Sh : Im} {Lh : List (Nat × HA)} {i d : Nat} {op : Op} {ty : TypeId} {pos : String} {af : Array Edge} {j dj : Nat} {want : Bool} (hi : ops[i]? = some ⟨some d, op, ty, pos, af, some (j, want)⟩) (hc : (Region.noSelect ops && (Region.free .any ops listed i && ((Region.ready .any ops listed).contains i && lateOk ops m i))) = true)
    (hH : ∀ w, Hp E S L w → Hp E Sh Lh w) (hd : Nat.blt d E.n = true) (hj : gslot ops j = some dj) (hv : lk l dj = some undef)
    (k : A P E ops Q (Hp E Sh Lh) m S L ((d, undef) :: l) (listed.setIfInBounds i true) fuel) : A P E ops Q (Hp E Sh Lh) m S L l listed (fuel + 1) :=
  A_take0 hi hc hH hd (fun a ha => .inr ⟨by simp [Region.wanted, yielded_of hj hv ha, undef], rfl⟩) k

/-- One of those that may come up now. -/
def AS (P : Program) (E : Env) (ops : Array Oper) (Q : Exit → Act → World → Prop) (H : World → Prop) (m : Nat) (S : Im) (L : List (Nat × HA)) (l : List (Nat × Value)) (listed : Array Bool) (fuel : Nat) (i : Nat) : Prop :=
  ∀ a w, St E S L l a w → wpOp P ops (onlyN Q) i (fun a' w' => (i < m → H w') ∧ wpL P ops (onlyN Q) H m fuel (listed.setIfInBounds i true) a' w') a w

theorem A_all {rs : List Nat} (hr : Region.ready .any ops listed = rs) (hne : rs ≠ []) (h : ∀ i ∈ rs, AS P E ops Q H m S L l listed fuel i) : A P E ops Q H m S L l listed (fuel + 1) :=
  fun a w hs => ⟨fun h0 => absurd (hr ▸ h0) hne, hr ▸ fun i hi => h i hi a w hs⟩

theorem A_one {i : Nat} (hr : Region.ready .any ops listed = [i]) (h : AS P E ops Q H m S L l listed fuel i) : A P E ops Q H m S L l listed (fuel + 1) :=
  A_all hr (by simp) fun j hj => by simp at hj; subst hj; exact h

theorem A_two {i j : Nat} (hr : Region.ready .any ops listed = [i, j]) (h : AS P E ops Q H m S L l listed fuel i) (h' : AS P E ops Q H m S L l listed fuel j) : A P E ops Q H m S L l listed (fuel + 1) :=
  A_all hr (by simp) fun k hk => by simp at hk; rcases hk with rfl | rfl <;> assumption

theorem AS_op {i : Nat} {dst : Option Nat} {op : Op} {ty : TypeId} {pos : String} {af : Array Edge} (hi : ops[i]? = some ⟨dst, op, ty, pos, af, none⟩)
    (h : Op1 P E S L l ⟨dst, op, ty, pos, af, none⟩ fun S' L' l' => (Nat.blt i m = true → ∀ w, Hp E S' L' w → H w) ∧ A P E ops Q H m S' L' l' (listed.setIfInBounds i true) fuel) : AS P E ops Q H m S L l listed fuel i := by
  intro a w hs
  unfold wpOp
  rw [hi]
  simp only [Region.wanted, if_true]
  exact .inl (wp_false (h a w _ hs fun S' L' l' a' w' hk hs' => ⟨fun hlt => hk.1 (by simpa [Nat.blt_eq] using hlt) _ hs'.hp, hk.2 a' w' hs'⟩))

theorem AS_opy {i : Nat} {dst : Option Nat} {op : Op} {ty : TypeId} {pos : String} {af : Array Edge} {j dj : Nat} {b want : Bool} (hi : ops[i]? = some ⟨dst, op, ty, pos, af, some (j, want)⟩) (hj : gslot ops j = some dj) (hv : lk l dj = some (.bool b)) (hb : b = want)
    (h : Op1 P E S L l ⟨dst, op, ty, pos, af, some (j, want)⟩ fun S' L' l' => (Nat.blt i m = true → ∀ w, Hp E S' L' w → H w) ∧ A P E ops Q H m S' L' l' (listed.setIfInBounds i true) fuel) : AS P E ops Q H m S L l listed fuel i := by
  intro a w hs
  unfold wpOp
  rw [hi]
  simp only
  rw [if_pos (by simp [Region.wanted, yielded_of hj hv hs.ag, hb])]
  exact .inl (wp_false (h a w _ hs fun S' L' l' a' w' hk hs' => ⟨fun hlt => hk.1 (by simpa [Nat.blt_eq] using hlt) _ hs'.hp, hk.2 a' w' hs'⟩))

theorem A_done (hr : Region.ready .any ops listed = []) (h : ∀ a w, St E S L l a w → Q .normal a w) : A P E ops Q H m S L l listed fuel :=
  fun a w hs => by
    cases fuel with
    | zero => exact ⟨hr, h a w hs⟩
    | succ n => exact ⟨fun _ => h a w hs, by rw [hr]; simp⟩

theorem A_sub {L' : List (Nat × HA)} {l' : List (Nat × Value)} (hL : Sub L L') (hl : Sub l l') (k : A P E ops Q H m S L' l' listed fuel) : A P E ops Q H m S L l listed fuel := fun a w h => k a w (h.sub hL hl)

theorem held {L' : List (Nat × HA)} (hs : Sub L L') : ∀ w, Hp E S L w → Hp E S L' w := fun _ h => h.sub hs

/-- Where S has grown, what was held before is held still. -/
theorem held_le {S' : Im} {L' : List (Nat × HA)} (hs : Sub L' L) (hle : ∀ b o, S b = some o → S' b = some o) (h0 : ∀ b o, E.S0 b = some o → S b = some o) : ∀ w, Hp E S' L' w → Hp E S L w := fun w h => by
  have h := h.sub hs
  refine { h with im := fun b o hb => h.im b o (hle b o hb), imc := fun b o hb => h.imc b o (hle b o hb), soft := fun b cs T fr h1 h2 => h.soft b cs T fr (hle _ _ h1) h2, le := h0, new := fun b o hb => h.new b o (hle b o hb), own := fun k x hx => ⟨(h.own k x hx).1, fun g hg => ⟨?_, ((h.own k x hx).2 g hg).2⟩⟩ }
  cases hS : S g with
  | none => rfl
  | some o => have := hle g o hS; rw [((h.own k x hx).2 g hg).1] at this; cases this
end
end Go.Proofs.Ythamgiecgilmdaa
