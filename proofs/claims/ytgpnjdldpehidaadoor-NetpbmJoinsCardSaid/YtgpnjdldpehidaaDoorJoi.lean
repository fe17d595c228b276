/-
  The card of the row is proved here, for every input.
-/
import Derived.Test.YtgpnjdldpehidaaDoorJoiRowB
import Derived.Test.YtgpnjdldpehidaaDoorAbsG
import Derived.Test.YtgpnjdldpehidaaDoorJoiLawS
open Go Go.Abs Go.Proofs Go.RowKit Go.ChangeShapes
set_option maxRecDepth 100000
set_option linter.unusedVariables false
namespace Go.Proofs.YtgpnjdldpehidaaDoor.joi
theorem und41w : Tryd.prog.underlying 41 = some (.slice 24) := by kernel_rfl
theorem contract (H : Type) (enc : TypeId × Value → H) (W : World) (base : Nat) (args : Array Value) (ds gs : List (DataW H)) (before : List MemPlace)
    (hval : ∀ (j : Nat) t v, Tryd.f8.params[j]? = some t → args[j]? = some v → Value.okWide Tryd.prog W .any base t v)
    (hW : DataW.Whole enc Tryd.prog Tryd.f8.params.toList Rows.netpbmJoinsSpec.vars false W args.toList ds gs before) (hL : laidMetH Tryd.prog Rows.netpbmJoinsRow.laid W) (hS : W.ShapedOpen Tryd.prog) :
    Calls Tryd.prog 8 args W fun e W' => ∃ v, e = .returned v ∧ Rows.netpbmJoinsSpec.post enc Tryd.prog Tryd.f8 false true false false W args v W' := by
  have hW' := hW
  obtain ⟨p, q, hA0, hV, rfl, hfz, hnd⟩ := hW
  have hA : DataW.TrodAll enc Tryd.prog W 0 (fun _ => true) true Tryd.f8.params.toList args.toList ds p := hA0
  rw [Tryd.params8] at hA hval
  obtain ⟨v0, vs0, d0, ds0, p0, q0, hargs, rfl, rfl, h0, r0⟩ := trodAll_cons hA
  obtain ⟨v1, vs1, d1, ds1, p1, q1, rfl, rfl, rfl, h1, r1⟩ := trodAll_cons r0
  obtain ⟨rfl, rfl, rfl⟩ := trodAll_nil r1
  obtain rfl : args = #[v0, v1] := by cases args; simp_all
  obtain ⟨rfl, rfl⟩ := trodVars_none hV
  obtain ⟨μ0, hp0, s0, t0⟩ := startW (sizeW hS) hL
  obtain ⟨l0, a0, b0, rfl⟩ := Go.WideShapes.okWide_slice und41w (hval 0 41 v0 rfl rfl)
  obtain ⟨fuel, h0⟩ := h0
  obtain ⟨μ1, hp1, a, c, y, l, s1, x1, u1, t1, hl⟩ := s0.images t0 rowMine und41w Tryd.underlying24 (by kernel_rfl) ⟨rfl, rfl, rfl⟩ ⟨by kernel_rfl, by kernel_rfl, by kernel_rfl⟩ nwu3 nwu3 nwu22 nwu5 cells5 h0
  obtain ⟨ts, b, e, μ2, hp2, s2, x2, u2, t2, hts⟩ := startBytes s1 t1 (fun e he => by
    rcases List.mem_cons.1 he with rfl | he
    · rfl
    · rcases List.mem_cons.1 he with rfl | he
      · rfl
      · exact rowMine e he) (hval 1 22 v1 rfl rfl) h1
  have hl2 : ∀ x ∈ l, (∀ v ∈ x.2.2, 0 ≤ v ∧ v < 256) ∧ x.2.2.length < lfOf l := fun x hx => ⟨fun v hv => by
    have := hl x hx v hv
    simp only [Lit.wf, Bool.and_eq_true, decide_eq_true_eq] at this
    simp [IntKind.min, IntKind.max, IntKind.signed, IntKind.bits] at this
    omega, (lfOf_ge l).2 x hx⟩
  have t3 := (t2.pull 1 rfl)
  have t4 := t3.pull 2 rfl
  have t5 := t4.pull 1 rfl
  obtain ⟨h', ee, _⟩ := F8.ok hOra (lf := lfOf l) (F := []) a c y l b e ts hp2 t5 (joins_true l ts hl2 (lfOf_ge l).1)
  have key := callW_calls mixed (ng_of ng0) ora_ok ee (by simp) (by kernel_rfl) (Nat.le_refl _) s2.hr (args' := #[.slice l0 a0 b0, v1]) (.cons _ _ _ _ (u1.mono x2) (.cons _ _ _ _ u2 .nil))
  refine Calls.mono key fun e W' he => ?_
  obtain ⟨rfl, hb⟩ := Ret.below he
  exact ⟨_, rfl, post_true laidB (readB _ (by kernel_rfl)) (tb := 4) (by kernel_rfl) und4 rfl hW' rfl hb⟩
noncomputable def argsW : Array Value := #[.slice none 0 0, .slice none 0 0]
theorem readsW (os : Os) {H : Type} (enc : TypeId × Value → H) : ∃ places, DataW.whole enc Tryd.prog ((laidWorld os).forCall (fun _ _ => 0) ⟨#[], argsW, []⟩).memory Tryd.f8.params.toList Rows.netpbmJoinsSpec.vars false argsW.toList 8 = some ([.nil, .nil], [], places) :=
  ⟨[], by kernel_rfl⟩
theorem lifted (os : Os) (started : os.Started) (H : Type) (enc : TypeId × Value → H) (F : Stop.Interp) :
    ReturnsInHanded {} Tryd.checked os 8 .any ((OpenSpec.ofChange Rows.netpbmJoinsSpec).preRow enc Tryd.prog Tryd.f8 Rows.netpbmJoinsRow.domain false Rows.netpbmJoinsRow.laid) (((OpenSpec.ofChange Rows.netpbmJoinsSpec).at F).post enc Tryd.prog Tryd.f8 false true false false) := by
  obtain ⟨places, hx⟩ := readsW os enc
  refine returnsInHanded_of_row (C := Tryd.checked) (s := OpenSpec.ofChange Rows.netpbmJoinsSpec) ownK started (by kernel_rfl) Tryd.func8
    (witness_row_at (enc := enc) (C := Tryd.checked) false (laidWorld os) argsW rfl (by kernel_rfl) (by kernel_rfl) (by kernel_rfl)
      (OpenSpec.preRow_of_cond 8 hx (by kernel_rfl) (fun k hk => by cases hk) (by kernel_rfl) (laid_met os argsW))) ?_
  intro W base args ds gs before hval hW _ _ _ hL hS _
  exact contract H enc W base args ds gs before hval hW hL hS
theorem said : Rows.NetpbmJoinsSaid :=
  OpenClaim.holds_of_cond 8 Tryd.f8 rfl rfl rfl rfl rfl rfl rfl ⟨rfl, rfl, rfl, rfl, rfl⟩ rfl rfl rfl rfl rfl (by kernel_rfl) Tryd.func8 (by kernel_rfl)
    (of_decide_eq_true (by kernel_rfl)) (by unfold Func.isWrapper; first | (rw [if_pos (by decide +kernel)]; kernel_rfl) | (rw [if_neg (by decide +kernel)]; exact ⟨rfl, rfl⟩))
    (fun os started H enc _ F => by rw [OpenClaim.pre_eq_preRow]; exact lifted os started H enc F)
theorem wants (t : TypeId) (ht : t ∈ [41, 22]) : Tryd.prog.wantsStandIn t = false := by
  have key : ([41, 22].all fun t => !Tryd.prog.wantsStandIn t) = true := by kernel_rfl
  rw [List.all_eq_true] at key
  simpa using key t ht
theorem plain (f : FuncId) (fn : Func) (hf : Tryd.pinned.checked.prog.funcNamed "barscan/barscanlaw32.NetpbmJoins" = some f) (hfn : Tryd.pinned.checked.prog.funcs[f]? = some fn) :
    true = Tryd.pinned.checked.prog.looks [] ∧ ∀ (j : Nat) t, fn.params[j]? = some t → Tryd.pinned.checked.prog.wantsStandIn t = false := by
  obtain rfl : f = 8 := Option.some.inj ((show Tryd.prog.funcNamed "barscan/barscanlaw32.NetpbmJoins" = some 8 by kernel_rfl).symm.trans hf) |>.symm
  obtain rfl : fn = Tryd.f8 := (Option.some.inj (Tryd.func8.symm.trans hfn)).symm
  refine ⟨by kernel_rfl, fun j t ht => ?_⟩
  rw [Tryd.params8] at ht
  exact wants t (by simpa using Array.mem_of_getElem? ht)
/-- ████ THE CARD ████ -/
theorem netpbmJoins_holds : Rows.NetpbmJoinsCardSaid :=
  Claim7.holds_tied_plain_at .later [] _ _ _ _ said (fun _ h => by cases h) (by kernel_rfl) (fun _ h => by cases h) netpbmJoins_row_tie rfl ⟨rfl, rfl⟩ (by kernel_rfl) rfl plain (by kernel_rfl)
end Go.Proofs.YtgpnjdldpehidaaDoor.joi
