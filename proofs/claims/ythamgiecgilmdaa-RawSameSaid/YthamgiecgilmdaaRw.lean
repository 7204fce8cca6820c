/- The row: whatever comes in, the law's call answers true and leaves it as it was. -/
import Derived.Test.YthamgiecgilmdaaOp
import Derived.Test.YthamgiecgilmdaaLw
import Derived.Test.YthamgiecgilmdaaRows
namespace Go.Proofs.Ythamgiecgilmdaa
open Go Go.RowKit Go.ChangeShapes Go.WideShapes Go.ChangeAt

theorem own_ : ownKnob Try.prog.godebug = none := by kernel_rfl
theorem laidOut_ : laidOutB Try.prog = true := by kernel_rfl

/-- A record that comes in. -/
theorem opened_st {H : Type} {enc : TypeId × Value → H} {α : Type} {d : Kd α} {P : Program} {W : World} {r : Reach} {base : Nat} {t : TypeId} {v : Value} {x : DataW H} {p : List MemPlace} (hs : ∃ o ft s, tFld P t 0 = some (o, ft, s)) (he : Opn P d t)
    (hv : Value.okWide P W r base t v) (h : DataW.Trod enc P W 0 (fun _ => true) true t v x p) : ∃ (us : List Value) (y : α), v = .agg us.toArray ∧ d.K (imOf W) us y := by
  obtain ⟨o, ft, s, hf⟩ := hs
  obtain ⟨fs, f, hu, _⟩ := tFld_und hf
  obtain ⟨cs, rfl, _⟩ := okWide_struct hu hv
  obtain ⟨fuel, hf⟩ := h
  obtain ⟨y, hy⟩ := he enc W 0 _ _ fuel _ _ hf
  exact ⟨cs.toList, y, rfl, hy⟩

theorem law (W : World) (us vs : List Value) (f o : GFrame) (hf : kGFrame.K (imOf W) us f) (ho : kGFrame.K (imOf W) vs o) : Fn Try.prog 3 [.agg us.toArray, .agg vs.toArray] (imOf W) [] fun v S' L' => v = .bool true := by
  obtain ⟨A0, c0, A3, c3, A4, c4, rfl, h0, h2, h3, h4⟩ := hf
  obtain ⟨B0, e0, B3, e3, B4, e4, rfl, k0, k2, k3, k4⟩ := ho
  exact (f_law (imOf W) f _ _ h0 h2 _ _ h3 _ _ h4 o _ _ k0 k2 _ _ k3 _ _ k4).mono fun v S' L' ⟨r0, h, _, e⟩ => by rw [h, ← e]

set_option maxRecDepth 100000 in
theorem lifted (os : Os) (started : os.Started) (H : Type) (enc : TypeId × Value → H) :
    ReturnsInHanded {} Try.checked os 3 .any (Rows.rawSameSpec.pre6 enc Try.prog Try.f3 Rows.rawSameRow.domain false) (Rows.rawSameSpec.post enc Try.prog Try.f3 false true false false) := by
  refine returnsInHanded_of_change (C := Try.checked) own_ started (by kernel_rfl) Try.func3
    (ChangeSpec.witness6 (enc := enc) (C := Try.checked) false ⟨#[], #[.agg #[.slice none 0 0, .bool false, .int .i64 0, .slice none 0 0, .slice none 0 0], .agg #[.slice none 0 0, .bool false, .int .i64 0, .slice none 0 0, .slice none 0 0]], []⟩ 8 (by kernel_rfl) (by kernel_rfl) (by kernel_rfl) (by kernel_rfl)) ?_
  intro W base args ds gs before hval0 hW hcnd _
  have hval : ∀ (j : Nat) t v, Try.f3.params[j]? = some t → args[j]? = some v → Value.okWide Try.prog W .any base t v := hval0
  have hW' := hW
  obtain ⟨p, q, hA0, hV, rfl, hfz, hnd⟩ := hW
  have hA : DataW.TrodAll enc Try.prog W 0 (fun _ => true) true Try.f3.params.toList args.toList ds p := hA0
  rw [Try.params3] at hA hval
  obtain ⟨v0, vs0, d0, ds0, p0, q0, hargs, rfl, rfl, h0, r0⟩ := trodAll_cons hA
  obtain ⟨v1, vs1, d1, ds1, p1, q1, rfl, rfl, rfl, h1, r1⟩ := trodAll_cons r0
  obtain ⟨rfl, rfl, rfl⟩ := trodAll_nil r1
  obtain rfl : args = #[v0, v1] := by cases args; simp_all
  obtain ⟨rfl, rfl⟩ := trodVars_none hV
  obtain ⟨us0, f0, rfl, hk0⟩ := opened_st ⟨_, _, _, fl_26_0⟩ opn_GFrame (hval 0 26 v0 rfl rfl) h0
  obtain ⟨us1, f1, rfl, hk1⟩ := opened_st ⟨_, _, _, fl_26_0⟩ opn_GFrame (hval 1 26 v1 rfl rfl) h1
  have lt0 : ∀ x ∈ p0, x.block < W.heap.size := by obtain ⟨m, hm⟩ := h0; exact DataW.trod_lt m _ _ _ hm
  have lt1 : ∀ x ∈ p1, x.block < W.heap.size := by obtain ⟨m, hm⟩ := h1; exact DataW.trod_lt m _ _ _ hm
  clear hA0 hval0
  refine (law W us0 us1 f0 f1 hk0 hk1 W (Hp.start W)).mono fun e W' ⟨v, S', L', he, hr, hp⟩ => ?_
  subst he
  subst hr
  have bel := hp.below
  exact ⟨_, rfl, _, _, _, [], _, [], hW', trodAll_mk1 (shut_bool Try.underlying4 _), (trodAll_cons_mk (Below.trod laidOut_ (by kernel_rfl) (of_decide_eq_true (by kernel_rfl)) h0 bel lt0) (trodAll_cons_mk (Below.trod laidOut_ (by kernel_rfl) (of_decide_eq_true (by kernel_rfl)) h1 bel lt1) trodAll_mk0)), rfl, bel.frame _, fun h => by cases h⟩

theorem over : Rows.rawSameRow.holds Try.pinned (OpenSpec.ofChange Rows.rawSameSpec) :=
  OpenClaim.holds_of_wide 3 Try.f3 rfl rfl rfl rfl rfl rfl rfl ⟨rfl, rfl, rfl, rfl, rfl⟩ rfl rfl rfl rfl rfl (by kernel_rfl) Try.func3 (by kernel_rfl)
    (of_decide_eq_true (by kernel_rfl)) (by unfold Func.isWrapper; first | (rw [if_pos (by decide +kernel)]; kernel_rfl) | (rw [if_neg (by decide +kernel)]; exact ⟨rfl, rfl⟩))
    (fun os started H enc _ => lifted os started H enc)

theorem proved : Rows.RawSameSaid := over
end Go.Proofs.Ythamgiecgilmdaa
