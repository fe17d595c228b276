/-
  The examples of the law and the memory at the beginning of a call: under the conditions of the row; no statement of the seat is proved in this file.
-/
import Derived.Test.YtgpnjdldpehidaaDoorProg
import Derived.KernelRfl
import Derived.Test.YtgpnjdldpehidaaDoorAbsB
import Derived.Test.YtgpnjdldpehidaaDoorLawA
import Derived.Test.YtgpnjdldpehidaaDoorCards
import Derived.Test.YtgpnjdldpehidaaDoorTie
import Derived.WalkKit
import Derived.ProofKit
import Derived.OpenShut
import Derived.Deep.DeepHandedRow
import Derived.Lib.LaidTab
open Go Go.Abs Go.Proofs
set_option maxRecDepth 100000
theorem mixed : Tryd.prog.follows .mixedOrders = true := by kernel_rfl
def ngB (P : Program) : Bool := P.funcs.toList.all fun fn => !(fn.name == "runtime.NumGoroutine")
theorem ng0 : ngB Tryd.prog = true := by kernel_rfl
theorem ng_of {P : Program} (h : ngB P = true) : NoNG P := fun f fn hf => by
  unfold ngB at h
  rw [List.all_eq_true] at h
  have := h fn (by rw [Array.mem_toList_iff]; exact Array.mem_of_getElem? hf)
  simpa using this
noncomputable def A35 : Code := sub (codeOf Tryd.f35) [false]
noncomputable def B35 : Code := sub (codeOf Tryd.f35) [true, true]
noncomputable def C43 : Code := sub (codeOf Tryd.f43) [true]
noncomputable def ora35 (N : Nat) : Ora := guardOra Tryd.prog N 35 Tryd.f35 Tryd.f43 A35 B35 C43 4 5
theorem ora35_ok (N : Nat) : OraOk Tryd.prog (ora35 N) := guardOra_ok mixed (ng_of ng0) Tryd.func35 rfl Tryd.func43 rfl rfl
def isT : Out → Bool
  | .ok (.bool true) _ => true
  | _ => false
theorem isT_ok {o : Out} (h : isT o = true) : ∃ h', o = .ok (.bool true) h' := by
  unfold isT at h
  split at h
  · exact ⟨_, rfl⟩
  · cases h
theorem ex9 : isT (call Tryd.prog (ora35 100000) 100000 3 9 [] (H0 Tryd.prog)) = true := by kernel_rfl
theorem g3 : Tryd.prog.globals.size = 3 := by kernel_rfl
theorem ex9_ok {ro0 B0 : Nat} {w0 w : World} {μ : Mu} {h : Heap} (hr : HR Tryd.prog ro0 B0 w0 μ h w) : Calls Tryd.prog 9 #[] w (Ret Tryd.prog ro0 B0 w0 μ h (.bool true)) := by
  obtain ⟨h', he⟩ := isT_ok ex9
  exact closed_ok mixed (ng_of ng0) (ora35_ok 100000) (n := 100000) (by decide) (by kernel_rfl) (by rw [g3]; exact he) hr

open Go Go.Abs Go.Proofs Go.RowKit Go.ChangeShapes
set_option maxRecDepth 100000
set_option linter.unusedVariables false
namespace Go.Proofs.YtgpnjdldpehidaaDoor
/-! ### What the rows' lists give -/
theorem ownK : ownKnob Tryd.prog.godebug = none := by kernel_rfl
theorem laidB : laidOutB Tryd.prog = true := by kernel_rfl
theorem gTab : Tryd.prog.globalNamed "internal/strconv.uint64pow10" = some 0 := by kernel_rfl
theorem und4 : Tryd.prog.underlying 4 = some .bool := by kernel_rfl
theorem readB (ts : List TypeId) (h : (ts.all fun t => Tryd.prog.readableRec t && decide (t < Tryd.prog.types.size)) = true) : ∀ t ∈ ts, Tryd.prog.readableRec t = true ∧ t < Tryd.prog.types.size := by
  rw [List.all_eq_true] at h
  intro t ht
  have := h t ht
  rw [Bool.and_eq_true] at this
  exact ⟨this.1, of_decide_eq_true this.2⟩
theorem hOra : HOra (closedOra 9 (.bool true)) := by
  refine ⟨fun ro f args h hf => ?_, fun ro h => rfl⟩
  unfold closedOra
  have : (f == 9) = false := by
    simp only [List.mem_cons, not_or] at hf
    simpa using hf.1
  rw [this]; rfl
theorem ora_ok : OraOk Tryd.prog (closedOra 9 (.bool true)) := closedOra_ok fun hr => ex9_ok hr
theorem und74 : Tryd.prog.underlying 74 = some (.int .u64) := by kernel_rfl
theorem cells74 : Tryd.prog.cellsOf 74 = 1 := by kernel_rfl
theorem cells95 : Tryd.prog.cellsOf 95 = 20 := by kernel_rfl
theorem gTabType : (Tryd.prog.globals[0]?).map (·.type) = some 95 := by kernel_rfl
/-- The rows' list of what the tables hold. -/
def laidL : List (String × DataW Unit) := [("math/bits.deBruijn32tab", Rows.laid_math_bits_deBruijn32tab), ("math/bits.deBruijn64tab", Rows.laid_math_bits_deBruijn64tab), ("internal/strconv.uint64pow10", Rows.laid_internal_strconv_uint64pow10)]
/-- THE PROGRAM'S TABLE at the beginning. -/
theorem tab0W {W : World} (h : laidMetH Tryd.prog laidL W) : ∃ cc t fr, W.heap[0]? = some (.cells cc t fr) ∧ cc = (gl0.map fun z => Value.int .u64 z).toArray := by
  have h : laidMet Tryd.prog laidL W := h
  obtain ⟨ps, ⟨_, _, _, _, _, _, _, _, _, _, ⟨_, _, _, _, _, _, _, _, _, _, ⟨g', t', cs, fuel, p, q, hg', ht', hvar, hd, _, _⟩, _⟩, _⟩, _⟩ := h
  obtain rfl := Option.some.inj (gTab.symm.trans hg')
  obtain rfl := Option.some.inj (gTabType.symm.trans ht')
  have e1 := Lib.cells_of_tab (zs := gl0) und95 und74 cells74 cells95 hd
  unfold World.var? at hvar
  rw [gTab] at hvar
  simp only [Option.bind_some] at hvar
  cases ho : W.heap[0]? with
  | none => rw [ho] at hvar; cases hvar
  | some o =>
    rw [ho] at hvar
    cases o with
    | cells cc t fr => cases hvar; exact ⟨cs, t, fr, rfl, by rw [← e1]⟩
    | _ => cases hvar
theorem startW {W : World} (hsz : Tryd.prog.globals.size ≤ W.heap.size) (h : laidMetH Tryd.prog laidL W) : ∃ (μ : Mu) (hp : Heap), Go.Abs.Start Tryd.prog W μ hp ∧ Sat hp.next hp [.row (some ⟨0, 0, none⟩) 20 (gl0.map (Value.int .u64))] := by
  obtain ⟨cc, t, fr, h1, h2⟩ := tab0W h
  have hg : 0 < Tryd.prog.globals.size := by rw [g3]; decide
  have hlen : (gl0.map (Value.int .u64)).length ≤ cc.size := by rw [h2]; simp
  refine ⟨_, H1 Tryd.prog 0 (gl0.map (Value.int .u64)), Go.Abs.Start.table hsz hg h1 hlen fun μ i v hi => ?_, H1_sat hg (by decide) (all_map (fun _ => rfl) _)⟩
  refine ⟨v, by rw [h2]; simpa using hi, ?_⟩
  rw [List.getElem?_map] at hi
  cases hz : gl0[i]? with
  | none => rw [hz] at hi; cases hi
  | some z => rw [hz] at hi; cases hi; exact .int _ _
/-! ### A world for the witness -/
def litVals : DataW Unit → Array Value
  | .agg ps => (ps.map fun d => match d with | .lit (.int k n) => Value.int k n | _ => undef).toArray
  | _ => #[]
def layAt (g : Nat) (d : DataW Unit) (h : Array Obj) : Array Obj := h.modify g fun
  | .cells _ t frozen => .cells (litVals d) t frozen
  | o => o
noncomputable def laidWorld (os : Os) : World :=
  { World.holding Tryd.prog os ⟨#[], #[], []⟩ with heap := layAt 0 Rows.laid_internal_strconv_uint64pow10 (layAt 1 Rows.laid_math_bits_deBruijn32tab (layAt 2 Rows.laid_math_bits_deBruijn64tab (World.holding Tryd.prog os ⟨#[], #[], []⟩).heap)) }
theorem laid_met (os : Os) (args : Array Value) : laidMet Tryd.prog laidL ((laidWorld os).forCall (fun _ _ => 0) ⟨#[], args, []⟩).memory :=
  laidMet_of_run' 8 (by kernel_rfl) (by kernel_rfl)
theorem beginB : Nat.ble (Tryd.prog.globals.size + 1) (begin Tryd.prog (fun _ _ => 0) default).world.heap.size = true := by kernel_rfl
theorem sizeW {W : World} (h : W.ShapedOpen Tryd.prog) : Tryd.prog.globals.size ≤ W.heap.size := by
  obtain ⟨o, _, ho, _⟩ := h.2 Tryd.prog.globals.size (Nat.le_refl _) (Nat.le_of_ble_eq_true beginB)
  exact Nat.le_of_lt (Array.getElem?_eq_some_iff.1 ho).1
/-! ### NetpbmWrites -/
theorem und3 : Tryd.prog.underlying 3 = some (.int .i64) := by kernel_rfl
theorem cells5 : Tryd.prog.cellsOf 5 = 1 := by kernel_rfl
/-- An image among the arguments. -/
theorem startImage {W : World} {H : Type} {enc : TypeId × Value → H} {μ : Mu} {hp : Heap} (hs : Go.Abs.Start Tryd.prog W μ hp) {R : List Ent} (hsat : Sat hp.next hp R) (hR : ∀ e ∈ R, e.mine = false) {base : Nat} {v : Value} {d : DataW H} {p : List MemPlace} (hval : Value.okWide Tryd.prog W .any base 24 v) (hx : DataW.Trod enc Tryd.prog W 0 (fun _ => true) true 24 v d p) :
    ∃ (x y : Int) (zs : List Int) (a : Option Addr) (c : Nat) (μ' : Mu) (hp' : Heap), Go.Abs.Start Tryd.prog W μ' hp' ∧ Ext μ μ' ∧ VR μ' (.agg #[.int .i64 x, .int .i64 y, .slice a zs.length c]) v ∧ Sat hp'.next hp' (.row a c (zs.map (Value.int .u8)) :: R) ∧ (∀ v ∈ zs, 0 ≤ v ∧ v < 256) ∧ (-(2 ^ 63) ≤ x ∧ x < 2 ^ 63) ∧ (-(2 ^ 63) ≤ y ∧ y < 2 ^ 63) := by
  obtain ⟨v0, v1, v2, y0, y1, y2, n, rfl, _, _, h0, h1, h2⟩ := Go.Joins.open_agg3 Tryd.underlying24 (by kernel_rfl) (by kernel_rfl) hval hx
  obtain ⟨x, e0, _, w0⟩ := DataW.trod_int und3 h0
  obtain ⟨y, e1, _, w1⟩ := DataW.trod_int und3 h1
  cases e0; cases e1
  obtain ⟨μ', hp', a, c, zs, hs', hx', hv', hsat', hw⟩ := hs.ints hsat hR und22 und5 cells5 h2
  refine ⟨x, y, zs, a, c, μ', hp', hs', hx', .agg _ _ (.cons _ _ _ _ (.int _ _) (.cons _ _ _ _ (.int _ _) (.cons _ _ _ _ hv' .nil))), hsat', fun v hv => ?_, ?_, ?_⟩
  · have := hw v hv
    simp only [Lit.wf, Bool.and_eq_true, decide_eq_true_eq] at this
    simp [IntKind.min, IntKind.max, IntKind.signed, IntKind.bits] at this
    omega
  · simp only [Lit.wf, Bool.and_eq_true, decide_eq_true_eq] at w0
    simp [IntKind.min, IntKind.max, IntKind.signed, IntKind.bits] at w0
    omega
  · simp only [Lit.wf, Bool.and_eq_true, decide_eq_true_eq] at w1
    simp [IntKind.min, IntKind.max, IntKind.signed, IntKind.bits] at w1
    omega
theorem rowMine {a : Option Addr} {c : Nat} {l : List Value} : ∀ e ∈ [Ent.row a c l], e.mine = false := fun e he => by
  simp only [List.mem_singleton] at he; subst he; rfl
theorem contractW (H : Type) (enc : TypeId × Value → H) (W : World) (base : Nat) (args : Array Value) (ds gs : List (DataW H)) (before : List MemPlace)
    (hval : ∀ (j : Nat) t v, Tryd.f3.params[j]? = some t → args[j]? = some v → Value.okWide Tryd.prog W .any base t v)
    (hW : DataW.Whole enc Tryd.prog Tryd.f3.params.toList Rows.netpbmWritesSpec.vars false W args.toList ds gs before) (hL : laidMetH Tryd.prog Rows.netpbmWritesRow.laid W) (hS : W.ShapedOpen Tryd.prog) :
    Calls Tryd.prog 3 args W fun e W' => ∃ v, e = .returned v ∧ Rows.netpbmWritesSpec.post enc Tryd.prog Tryd.f3 false true false false W args v W' := by
  have hW' := hW
  obtain ⟨p, q, hA0, hV, rfl, hfz, hnd⟩ := hW
  have hA : DataW.TrodAll enc Tryd.prog W 0 (fun _ => true) true Tryd.f3.params.toList args.toList ds p := hA0
  rw [Tryd.params3] at hA hval
  obtain ⟨v0, vs0, d0, ds0, p0, q0, hargs, rfl, rfl, h0, r0⟩ := trodAll_cons hA
  obtain ⟨v1, vs1, d1, ds1, p1, q1, rfl, rfl, rfl, h1, r1⟩ := trodAll_cons r0
  obtain ⟨rfl, rfl, rfl⟩ := trodAll_nil r1
  obtain rfl : args = #[v0, v1] := by cases args; simp_all
  obtain ⟨rfl, rfl⟩ := trodVars_none hV
  obtain ⟨μ0, hp0, s0, t0⟩ := startW (sizeW hS) hL
  obtain ⟨x, y, zs, a, c, μ1, hp1, s1, x1, u1, t1, hz, _, _⟩ := startImage s0 t0 rowMine (hval 0 24 v0 rfl rfl) h0
  obtain ⟨fz, rfl, rfl, wz⟩ := open_int und3 (hval 1 3 v1 rfl rfl) h1
  obtain ⟨h', e, _⟩ := F3.ok hOra (lf := 5000) (F := []) x y a c zs fz hp1 t1 (writes_true x y zs fz hz 5000 (Nat.le_refl _))
  have key := callW_calls mixed (ng_of ng0) ora_ok e (by simp) (by kernel_rfl) (Nat.le_refl _) s1.hr (args' := #[v0, .int .i64 fz]) (.cons _ _ _ _ u1 (.cons _ _ _ _ (.int _ _) .nil))
  refine Calls.mono key fun e W' he => ?_
  obtain ⟨rfl, hb⟩ := Ret.below he
  exact ⟨_, rfl, post_true laidB (readB _ (by kernel_rfl)) (tb := 4) (by kernel_rfl) und4 rfl hW' rfl hb⟩
end Go.Proofs.YtgpnjdldpehidaaDoor
