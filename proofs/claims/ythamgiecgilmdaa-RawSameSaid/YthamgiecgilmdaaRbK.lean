/- How data read: kinds, slices that are read alone. -/
import Derived.Test.YthamgiecgilmdaaRbD
namespace Go.Proofs.Ythamgiecgilmdaa
open Go Go.RowKit

abbrev ImLe (S S' : Im) : Prop := ∀ b o, S b = some o → S' b = some o
theorem ImLe.refl (S : Im) : ImLe S S := fun _ _ h => h
theorem ImLe.trans {S S' S'' : Im} (h : ImLe S S') (h' : ImLe S' S'') : ImLe S S'' := fun b o hb => h' b o (h b o hb)

structure Kd (α : Type) where
  sz : Nat
  K : Im → List Value → α → Prop
  len : ∀ {S cs x}, K S cs x → cs.length = sz
  mono : ∀ {S S' cs x}, ImLe S S' → K S cs x → K S' cs x
  one : ∀ {S cs x}, K S cs x → ∀ u ∈ cs, u.oneCell' = true

/-- Cells that read as a list. -/
def RdL {α : Type} (d : Kd α) (S : Im) : List Value → List α → Prop
  | _, [] => True
  | cs, x :: xs => d.K S (cs.take d.sz) x ∧ RdL d S (cs.drop d.sz) xs

/-- A slice that is read alone: A its address, c its capacity. -/
def RdA {α : Type} (d : Kd α) (S : Im) (A : Option Addr) (c : Nat) (xs : List α) : Prop :=
  xs.length ≤ c ∧ c ≤ maxLen ∧ (A = none → c = 0) ∧ (xs = [] ∨ ∃ g off cs T fr, A = some ⟨g, off, none⟩ ∧ S g = some (.cells cs T fr) ∧ RdL d S (cs.toList.drop off) xs)

def adr (A : Option Addr) (k : Nat) : Addr := match A with | some ad => ad.add k | none => ⟨0, 0, none⟩

section
variable {α : Type} {d : Kd α} {S S' : Im} {A : Option Addr} {c : Nat} {xs : List α}

theorem RdL.mono (hle : ImLe S S') : ∀ {xs : List α} {cs : List Value}, RdL d S cs xs → RdL d S' cs xs
  | [], _, _ => trivial
  | _ :: _, _, h => ⟨d.mono hle h.1, RdL.mono hle h.2⟩

theorem RdA.mono (h : RdA d S A c xs) (hle : ImLe S S') : RdA d S' A c xs := by
  obtain ⟨h1, h2, h3, h4⟩ := h
  refine ⟨h1, h2, h3, ?_⟩
  rcases h4 with h4 | ⟨g, off, cs, T, fr, hA, hS, hr⟩
  · exact .inl h4
  · exact .inr ⟨g, off, cs, T, fr, hA, hle _ _ hS, hr.mono hle⟩

theorem RdL.get : ∀ {xs : List α} {cs : List Value}, RdL d S cs xs → ∀ {i : Nat} {x : α}, xs[i]? = some x → d.K S ((cs.drop (i * d.sz)).take d.sz) x
  | [], _, _, i, x, h => by simp at h
  | y :: ys, cs, hr, 0, x, h => by simp at h; subst h; simpa using hr.1
  | y :: ys, cs, hr, i + 1, x, h => by
    have := RdL.get hr.2 (i := i) (x := x) (by simpa using h)
    rwa [List.drop_drop, show d.sz + i * d.sz = (i + 1) * d.sz by rw [Nat.add_mul]; omega] at this

theorem RdL.drop : ∀ {xs : List α} {cs : List Value} (i : Nat), RdL d S cs xs → RdL d S (cs.drop (i * d.sz)) (xs.drop i)
  | _, _, 0, h => by simpa using h
  | [], _, i + 1, _ => by simp [RdL]
  | y :: ys, cs, i + 1, h => by
    have := RdL.drop i h.2
    rw [List.drop_drop, show d.sz + i * d.sz = (i + 1) * d.sz by rw [Nat.add_mul]; omega] at this
    simpa using this

theorem RdL.take : ∀ {xs : List α} {cs : List Value} (i : Nat), RdL d S cs xs → RdL d S cs (xs.take i)
  | _, _, 0, _ => by simp [RdL]
  | [], _, _, _ => by simp [RdL]
  | y :: ys, cs, i + 1, h => ⟨h.1, h.2.take i⟩

theorem RdL.append : ∀ {xs ys : List α} {cs ds : List Value}, RdL d S cs xs → cs.length = xs.length * d.sz → RdL d S ds ys → RdL d S (cs ++ ds) (xs ++ ys)
  | [], ys, cs, ds, _, hl, h' => by
    have : cs = [] := List.eq_nil_of_length_eq_zero (by simpa using hl)
    subst this; simpa using h'
  | x :: xs, ys, cs, ds, h, hl, h' => by
    have h1 : d.sz ≤ cs.length := by rw [hl, List.length_cons, Nat.add_mul]; omega
    refine ⟨?_, ?_⟩
    · rw [List.take_append_of_le_length h1]; exact h.1
    · rw [List.drop_append_of_le_length h1]
      exact RdL.append h.2 (by rw [List.length_drop, hl, List.length_cons, Nat.add_mul]; omega) h'

/-- Cells that read as a list, and no more. -/
theorem RdL.snoc {cs ds : List Value} {x : α} (h : RdL d S cs xs) (hl : cs.length = xs.length * d.sz) (hx : d.K S ds x) : RdL d S (cs ++ ds) (xs ++ [x]) ∧ (cs ++ ds).length = (xs ++ [x]).length * d.sz := by
  have hd := d.len hx
  refine ⟨h.append hl ⟨by rw [← hd, List.take_length]; exact hx, trivial⟩, ?_⟩
  rw [List.length_append, List.length_append, hl, hd, Nat.add_mul]; simp

variable {L : List (Nat × HA)}

theorem cells_of_im {g off n : Nat} {cs : Array Value} {T : TypeId} {fr : Nat × Nat} (hS : S g = some (.cells cs T fr)) : ∀ (us : List Value) (o : Nat), (∀ j u, us[j]? = some u → cs.toList[o + j]? = some u) → Cells S L ⟨g, o, none⟩ us
  | [], _, _ => trivial
  | u :: us, o, h => by
    refine ⟨.inl ⟨cs, T, fr, rfl, hS, by simpa using h 0 u rfl⟩, ?_⟩
    rw [addp]
    refine cells_of_im (off := off) (n := n) hS us (o + 1) fun j u' hj => ?_
    have := h (j + 1) u' (by simpa using hj)
    rwa [show o + (j + 1) = o + 1 + j by omega] at this

theorem Cells.one {ad : Addr} {v : Value} (h : Cells S L ad [v]) : Cell S L ad v := h.1

/-- Element i of a slice: its cells. -/
theorem RdA.at_ (h : RdA d S A c xs) {i : Nat} {x : α} (hi : xs[i]? = some x) : ∃ us, d.K S us x ∧ (∀ L, Cells S L (adr A (i * d.sz)) us) ∧ (adr A (i * d.sz)).spot = none := by
  rcases h.2.2.2 with h4 | ⟨g, off, cs, T, fr, rfl, hS, hr⟩
  · subst h4; simp at hi
  · have hk := hr.get hi
    refine ⟨_, hk, fun L => ?_, ?_⟩
    · simp only [adr, addp]
      refine cells_of_im (off := 0) (n := 0) hS _ _ fun j u hj => ?_
      have hlt : j < d.sz := by
        have := (List.getElem?_eq_some_iff.1 hj).1
        rw [List.length_take] at this; omega
      rw [List.getElem?_take_of_lt hlt, List.getElem?_drop, List.getElem?_drop] at hj
      rwa [show off + (i * d.sz + j) = off + i * d.sz + j by omega] at hj
    · simp [adr, addp]

theorem RdA.addr (h : RdA d S A c xs) (hn : 0 < xs.length) : ∃ ad, A = some ad := by
  rcases h.2.2.2 with h4 | ⟨g, off, cs, T, fr, rfl, hS, hr⟩
  · subst h4; simp at hn
  · exact ⟨_, rfl⟩

theorem RdA.nil (d : Kd α) (S : Im) : RdA d S none 0 [] := ⟨Nat.le_refl _, by simp [maxLen], fun _ => rfl, .inl rfl⟩

/-- A cut of a slice. -/
theorem RdA.cut (h : RdA d S A c xs) {i j : Nat} (hij : i ≤ j) (hj : j ≤ xs.length) : RdA d S (if c = i then A else A.map (·.add (i * d.sz))) (c - i) ((xs.drop i).take (j - i)) := by
  obtain ⟨h1, h2, h3, h4⟩ := h
  have hl : ((xs.drop i).take (j - i)).length = j - i := by rw [List.length_take, List.length_drop]; omega
  refine ⟨by omega, by omega, fun hA => ?_, ?_⟩
  · split at hA
    · have := h3 hA; omega
    · cases A with
      | none => have := h3 rfl; omega
      | some ad => simp at hA
  · rcases h4 with h4 | ⟨g, off, cs, T, fr, rfl, hS, hr⟩
    · subst h4; simp
    · by_cases hij' : i = j
      · subst hij'; simp
      · right
        have hc : ¬ c = i := by omega
        refine ⟨g, off + i * d.sz, cs, T, fr, ?_, hS, ?_⟩
        · rw [if_neg hc]; simp [addp]
        · rw [← List.drop_drop]
          exact (hr.drop i).take _
end

/-! ### Kinds -/
def kInt (k : IntKind) : Kd Int where
  sz := 1
  K := fun _ cs x => cs = [.int k x] ∧ InR k x
  len := fun h => by rw [h.1]; rfl
  mono := fun _ h => h
  one := fun h u hu => by rw [h.1] at hu; simp at hu; subst hu; rfl
def kBool : Kd Bool where
  sz := 1
  K := fun _ cs x => cs = [.bool x]
  len := fun h => by rw [h]; rfl
  mono := fun _ h => h
  one := fun h u hu => by rw [h] at hu; simp at hu; subst hu; rfl
def kSl {α : Type} (d : Kd α) : Kd (List α) where
  sz := 1
  K := fun S cs xs => ∃ A c, cs = [.slice A xs.length c] ∧ RdA d S A c xs
  len := fun ⟨A, c, h, _⟩ => by rw [h]; rfl
  mono := fun hle ⟨A, c, h, hr⟩ => ⟨A, c, h, hr.mono hle⟩
  one := fun ⟨A, c, h, _⟩ u hu => by rw [h] at hu; simp at hu; subst hu; rfl
/-- Cells one behind the other. -/
def kPair {α β : Type} (a : Kd α) (b : Kd β) : Kd (α × β) where
  sz := a.sz + b.sz
  K := fun S cs x => ∃ us vs, cs = us ++ vs ∧ a.K S us x.1 ∧ b.K S vs x.2
  len := fun ⟨us, vs, h, h1, h2⟩ => by rw [h, List.length_append, a.len h1, b.len h2]
  mono := fun hle ⟨us, vs, h, h1, h2⟩ => ⟨us, vs, h, a.mono hle h1, b.mono hle h2⟩
  one := fun ⟨us, vs, h, h1, h2⟩ u hu => by
    rw [h] at hu
    rcases List.mem_append.1 hu with hu | hu
    · exact a.one h1 u hu
    · exact b.one h2 u hu
def kIso {α β : Type} (a : Kd α) (f : β → α) : Kd β where
  sz := a.sz
  K := fun S cs x => a.K S cs (f x)
  len := fun h => a.len h
  mono := fun hle h => a.mono hle h
  one := fun h => a.one h

section
variable {P : Program} {E : Env} {S : Im} {L : List (Nat × HA)} {l : List (Nat × Value)}
variable {dd : Option Nat} {ty : TypeId} {pos : String} {af : Array Edge} {gd : Option (Nat × Bool)}

theorem RdA.int {k : IntKind} {A : Option Addr} {c : Nat} {xs : List Int} (h : RdA (kInt k) S A c xs) {i : Nat} {x : Int} (hi : xs[i]? = some x) : Cell S L (adr A i) (.int k x) ∧ InR k x := by
  obtain ⟨us, ⟨rfl, hr⟩, hc, _⟩ := h.at_ hi
  simp only [kInt, Nat.mul_one] at hc
  exact ⟨(hc L).1, hr⟩
theorem RdA.bool {A : Option Addr} {c : Nat} {xs : List Bool} (h : RdA kBool S A c xs) {i : Nat} {x : Bool} (hi : xs[i]? = some x) : Cell S L (adr A i) (.bool x) := by
  obtain ⟨us, rfl, hc, _⟩ := h.at_ hi
  simp only [kBool, Nat.mul_one] at hc
  exact (hc L).1
theorem RdA.sl {α : Type} {d : Kd α} {A : Option Addr} {c : Nat} {xs : List (List α)} (h : RdA (kSl d) S A c xs) {i : Nat} {x : List α} (hi : xs[i]? = some x) : ∃ A' c', (∀ L, Cell S L (adr A i) (.slice A' x.length c')) ∧ RdA d S A' c' x := by
  obtain ⟨us, ⟨A', c', rfl, hr⟩, hc, _⟩ := h.at_ hi
  simp only [kSl, Nat.mul_one] at hc
  exact ⟨A', c', fun L => (hc L).1, hr⟩
theorem RdA.inR {k : IntKind} {A : Option Addr} {c : Nat} {xs : List Int} (h : RdA (kInt k) S A c xs) : ∀ x ∈ xs, InR k x := fun x hx => by
  obtain ⟨i, hi⟩ := List.getElem?_of_mem hx
  exact (h.int (L := []) hi).2

/-- The address of element i of a slice that is read. -/
theorem pv_idx {α : Type} {d : Kd α} {A : Option Addr} {c sz : Nat} {xs : List α} {Sr : Im} (hr : RdA d Sr A c xs) {t e : TypeId} {x y : Operand} {ik : IntKind} {i : Int} (hx : ev l x = some (.slice A xs.length c)) (hy : ev l y = some (.int ik i)) (ht : tElem P t = some e) (hs : tSz P e = some sz)
    (h0 : 0 ≤ i) (h1 : i < xs.length) : PV P E S L l ⟨dd, .indexAddr t x y, ty, pos, af, gd⟩ (.pointer (some (adr A (i.toNat * sz)))) := by
  obtain ⟨ad, rfl⟩ := hr.addr (by omega)
  exact pv_indexAddr hx hy ht hs h0 h1

def strB (bs : List Int) : ByteArray := bs.foldl (fun r n => r.push (UInt8.ofNat n.toNat)) ByteArray.empty

theorem RdA.slc {α : Type} {d : Kd α} {A : Option Addr} {c : Nat} {xs : List α} (h : RdA d S A c xs) : ∃ news, (∀ L, SlC S L A xs.length c news) ∧ news.length = xs.length * d.sz ∧ RdL d S news xs ∧ ∀ u ∈ news, u.oneCell' = true := by
  obtain ⟨h1, h2, h3, h4⟩ := h
  rcases h4 with h4 | ⟨g, off, cs, T, fr, rfl, hS, hr⟩
  · subst h4
    refine ⟨[], fun L => ?_, by simp, trivial, by simp⟩
    cases A with
    | none => exact .inl ⟨rfl, rfl, h3 rfl, rfl⟩
    | some ad => exact .inr ⟨ad, rfl, fun j u hu => by simp at hu⟩
  · have hlen : ∀ (xs : List α) (ds : List Value), RdL d S ds xs → xs.length * d.sz ≤ ds.length := by
      intro xs
      induction xs with
      | nil => intro ds _; simp
      | cons x xs ih =>
        intro ds hd
        have a1 := d.len hd.1
        have a2 := ih _ hd.2
        rw [List.length_take] at a1
        rw [List.length_drop] at a2
        rw [List.length_cons, Nat.add_mul]
        omega
    have hl := hlen xs _ hr
    have htk : ∀ (xs : List α) (ds : List Value), RdL d S ds xs → RdL d S (ds.take (xs.length * d.sz)) xs ∧ ∀ u ∈ ds.take (xs.length * d.sz), u.oneCell' = true := by
      intro xs
      induction xs with
      | nil => intro ds _; exact ⟨trivial, by simp⟩
      | cons x xs ih =>
        intro ds hd
        have ih' := ih _ hd.2
        have e1 : (x :: xs).length * d.sz = d.sz + xs.length * d.sz := by rw [List.length_cons, Nat.add_mul]; omega
        have e2 : ds.take ((x :: xs).length * d.sz) = ds.take d.sz ++ (ds.drop d.sz).take (xs.length * d.sz) := by rw [e1, List.take_add]
        refine ⟨⟨?_, ?_⟩, fun u hu => ?_⟩
        · rw [e1, List.take_take, Nat.min_eq_left (by omega)]; exact hd.1
        · rw [e1, List.drop_take, show d.sz + xs.length * d.sz - d.sz = xs.length * d.sz by omega]; exact ih'.1
        · rw [e2] at hu
          rcases List.mem_append.1 hu with hu | hu
          · exact d.one hd.1 u hu
          · exact ih'.2 u hu
    obtain ⟨r1, r2⟩ := htk xs _ hr
    refine ⟨_, fun L => .inr ⟨⟨g, off, none⟩, rfl, fun j u hj => ?_⟩, by rw [List.length_take]; omega, r1, r2⟩
    have hlt := (List.getElem?_eq_some_iff.1 hj).1
    rw [List.length_take] at hlt
    rw [List.getElem?_take_of_lt (by omega), List.getElem?_drop] at hj
    rw [addp]
    exact .inl ⟨cs, T, fr, rfl, hS, by simpa using hj⟩

theorem cells_ints {k : IntKind} : ∀ {xs : List Int} {news : List Value}, RdL (kInt k) S news xs → news.length = xs.length * (kInt k).sz → news = xs.map (Value.int k)
  | [], news, _, hl => List.eq_nil_of_length_eq_zero (by simpa using hl)
  | x :: xs, news, h, hl => by
    match news, hl with
    | [], hl => simp [kInt] at hl
    | n :: ns, hl =>
      have h1 := h.1.1
      simp [kInt] at h1
      have h2 : RdL (kInt k) S ns xs := h.2
      rw [List.map_cons, h1, cells_ints h2 (by simp [kInt] at hl ⊢; exact hl)]

theorem pv_str {A : Option Addr} {c : Nat} {bs : List Int} (hr : RdA (kInt .u8) S A c bs) {s t e : TypeId} {x : Operand} (hx : ev l x = some (.slice A bs.length c)) (hs : tElem P s = some e) (he : P.underlying e = some (.int .u8)) (ht : P.underlying t = some .string) :
    PV P E S L l ⟨dd, .convert s t x, ty, pos, af, gd⟩ (.string (strB bs)) := by
  intro a w ha hp
  obtain ⟨news, hsl, hlen, hrl, _⟩ := hr.slc
  have hsl := hsl L
  have hn := cells_ints hrl hlen
  simp only [execOp, ha.ev hx, Sem.run_bind, run_convert_bytes_string w s t e A _ _ (tElem_und hs) he ht]
  rcases hsl with ⟨rfl, h0, rfl, h1⟩ | ⟨ad, rfl, hc⟩
  · have hb : bs = [] := List.eq_nil_of_length_eq_zero h0
    subst hb
    simp [Conv.bytesToString, Sem.run_pure, Result.andThen, strB]
  · have hl := run_loadCells_list (P := P) (w := w) ad news (fun j v hj => (hc j v hj).cell hp)
    rw [hn, List.length_map] at hl
    rw [run_bytesToString w ad _ c bs hl]
    simp [Result.andThen, strB, Sem.run_pure]
end
end Go.Proofs.Ythamgiecgilmdaa
