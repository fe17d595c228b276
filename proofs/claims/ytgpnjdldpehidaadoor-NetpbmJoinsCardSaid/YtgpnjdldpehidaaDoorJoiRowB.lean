/-
  The examples of the law and the memory at the beginning of a call: under the conditions of the row; no statement of the seat is proved in this file.
-/
import Derived.Test.YtgpnjdldpehidaaDoorProg
import Derived.KernelRfl
import Derived.Test.YtgpnjdldpehidaaDoorAbsG
import Derived.Test.YtgpnjdldpehidaaDoorJoiTextJ
import Derived.Test.YtgpnjdldpehidaaDoorJoiTextQ
import Derived.Test.YtgpnjdldpehidaaDoorCards
import Derived.Test.YtgpnjdldpehidaaDoorTie
import Derived.WalkKit
import Derived.ProofKit
import Derived.OpenShut
import Derived.Deep.DeepHandedRow
import Derived.Lib.LaidTab
open Go Go.Abs Go.Proofs
set_option maxRecDepth 100000
theorem mixed : Tryd.prog.follows .mixedOrders = true := by kernel_rfl
def ngB (P : Program) : Bool := P.funcs.toList.all fun fn => !(fn.name == "runtime.NumGoroutine")
theorem ng0 : ngB Tryd.prog = true := by kernel_rfl
theorem ng_of {P : Program} (h : ngB P = true) : NoNG P := fun f fn hf => by
  unfold ngB at h
  rw [List.all_eq_true] at h
  have := h fn (by rw [Array.mem_toList_iff]; exact Array.mem_of_getElem? hf)
  simpa using this
noncomputable def A35 : Code := sub (codeOf Tryd.f35) [false]
noncomputable def B35 : Code := sub (codeOf Tryd.f35) [true, true]
noncomputable def C43 : Code := sub (codeOf Tryd.f43) [true]
noncomputable def ora35 (N : Nat) : Ora := guardOra Tryd.prog N 35 Tryd.f35 Tryd.f43 A35 B35 C43 4 5
theorem ora35_ok (N : Nat) : OraOk Tryd.prog (ora35 N) := guardOra_ok mixed (ng_of ng0) Tryd.func35 rfl Tryd.func43 rfl rfl
def isT : Out → Bool
  | .ok (.bool true) _ => true
  | _ => false
theorem isT_ok {o : Out} (h : isT o = true) : ∃ h', o = .ok (.bool true) h' := by
  unfold isT at h
  split at h
  · exact ⟨_, rfl⟩
  · cases h
theorem ex9 : isT (call Tryd.prog (ora35 100000) 100000 3 9 [] (H0 Tryd.prog)) = true := by kernel_rfl
theorem g3 : Tryd.prog.globals.size = 3 := by kernel_rfl
theorem ex9_ok {ro0 B0 : Nat} {w0 w : World} {μ : Mu} {h : Heap} (hr : HR Tryd.prog ro0 B0 w0 μ h w) : Calls Tryd.prog 9 #[] w (Ret Tryd.prog ro0 B0 w0 μ h (.bool true)) := by
  obtain ⟨h', he⟩ := isT_ok ex9
  exact closed_ok mixed (ng_of ng0) (ora35_ok 100000) (n := 100000) (by decide) (by kernel_rfl) (by rw [g3]; exact he) hr

open Go Go.Abs Go.Proofs Go.RowKit Go.ChangeShapes
set_option maxRecDepth 100000
set_option linter.unusedVariables false
namespace Go.Proofs.YtgpnjdldpehidaaDoor
/-! ### What the rows' lists give -/
theorem ownK : ownKnob Tryd.prog.godebug = none := by kernel_rfl
theorem laidB : laidOutB Tryd.prog = true := by kernel_rfl
theorem gTab : Tryd.prog.globalNamed "internal/strconv.uint64pow10" = some 0 := by kernel_rfl
theorem und4 : Tryd.prog.underlying 4 = some .bool := by kernel_rfl
theorem readB (ts : List TypeId) (h : (ts.all fun t => Tryd.prog.readableRec t && decide (t < Tryd.prog.types.size)) = true) : ∀ t ∈ ts, Tryd.prog.readableRec t = true ∧ t < Tryd.prog.types.size := by
  rw [List.all_eq_true] at h
  intro t ht
  have := h t ht
  rw [Bool.and_eq_true] at this
  exact ⟨this.1, of_decide_eq_true this.2⟩
noncomputable def oraN : Ora := orOra (closedOra 9 (.bool true)) (nextOra Tryd.prog 35 Tryd.f35 Tryd.f43 (sub (codeOf Tryd.f35) [false]) (sub (codeOf Tryd.f35) [true, true]) (sub (codeOf Tryd.f43) [true]) 4 5)
theorem hOra : HOra9 oraN := by
  have c9 : ∀ ro f args h, f ≠ 9 → closedOra 9 (.bool true) ro f args h = none := fun ro f args h hf => by
    unfold closedOra
    rw [show (f == 9) = false by simpa using hf]; rfl
  refine ⟨⟨fun ro f args h hf => ?_⟩, fun ro h => rfl, fun ro args h r hr hx => ?_⟩
  · simp only [List.mem_cons, not_or] at hf
    unfold oraN orOra
    rw [c9 ro f args h hf.1]
    exact nextOra_not hf.2.1
  · unfold oraN orOra
    rw [c9 ro 35 args h (by decide)]
    exact nextOra_eq hr hx
theorem ora_ok : OraOk Tryd.prog oraN := orOra_ok (closedOra_ok fun hr => ex9_ok hr) (nextOra_ok mixed (ng_of ng0) Tryd.func35 rfl Tryd.func43 rfl rfl)
theorem und74 : Tryd.prog.underlying 74 = some (.int .u64) := by kernel_rfl
theorem cells74 : Tryd.prog.cellsOf 74 = 1 := by kernel_rfl
theorem cells95 : Tryd.prog.cellsOf 95 = 20 := by kernel_rfl
theorem gTabType : (Tryd.prog.globals[0]?).map (·.type) = some 95 := by kernel_rfl
/-- The rows' list of what the tables hold. -/
def laidL : List (String × DataW Unit) := [("math/bits.deBruijn32tab", Rows.laid_math_bits_deBruijn32tab), ("math/bits.deBruijn64tab", Rows.laid_math_bits_deBruijn64tab), ("internal/strconv.uint64pow10", Rows.laid_internal_strconv_uint64pow10)]
/-- THE PROGRAM'S TABLE at the beginning. -/
theorem tab0W {W : World} (h : laidMetH Tryd.prog laidL W) : ∃ cc t fr, W.heap[0]? = some (.cells cc t fr) ∧ cc = (gl0.map fun z => Value.int .u64 z).toArray := by
  have h : laidMet Tryd.prog laidL W := h
  obtain ⟨ps, ⟨_, _, _, _, _, _, _, _, _, _, ⟨_, _, _, _, _, _, _, _, _, _, ⟨g', t', cs, fuel, p, q, hg', ht', hvar, hd, _, _⟩, _⟩, _⟩, _⟩ := h
  obtain rfl := Option.some.inj (gTab.symm.trans hg')
  obtain rfl := Option.some.inj (gTabType.symm.trans ht')
  have e1 := Lib.cells_of_tab (zs := gl0) und95 und74 cells74 cells95 hd
  unfold World.var? at hvar
  rw [gTab] at hvar
  simp only [Option.bind_some] at hvar
  cases ho : W.heap[0]? with
  | none => rw [ho] at hvar; cases hvar
  | some o =>
    rw [ho] at hvar
    cases o with
    | cells cc t fr => cases hvar; exact ⟨cs, t, fr, rfl, by rw [← e1]⟩
    | _ => cases hvar
theorem startW {W : World} (hsz : Tryd.prog.globals.size ≤ W.heap.size) (h : laidMetH Tryd.prog laidL W) : ∃ (μ : Mu) (hp : Heap), Go.Abs.Start Tryd.prog W μ hp ∧ Sat hp.next hp [.row (some ⟨0, 0, none⟩) 20 (gl0.map (Value.int .u64))] := by
  obtain ⟨cc, t, fr, h1, h2⟩ := tab0W h
  have hg : 0 < Tryd.prog.globals.size := by rw [g3]; decide
  have hlen : (gl0.map (Value.int .u64)).length ≤ cc.size := by rw [h2]; simp
  refine ⟨_, H1 Tryd.prog 0 (gl0.map (Value.int .u64)), Go.Abs.Start.table hsz hg h1 hlen fun μ i v hi => ?_, H1_sat hg (by decide) (all_map (fun _ => rfl) _)⟩
  refine ⟨v, by rw [h2]; simpa using hi, ?_⟩
  rw [List.getElem?_map] at hi
  cases hz : gl0[i]? with
  | none => rw [hz] at hi; cases hi
  | some z => rw [hz] at hi; cases hi; exact .int _ _
/-! ### A world for the witness -/
def litVals : DataW Unit → Array Value
  | .agg ps => (ps.map fun d => match d with | .lit (.int k n) => Value.int k n | _ => undef).toArray
  | _ => #[]
def layAt (g : Nat) (d : DataW Unit) (h : Array Obj) : Array Obj := h.modify g fun
  | .cells _ t frozen => .cells (litVals d) t frozen
  | o => o
noncomputable def laidWorld (os : Os) : World :=
  { World.holding Tryd.prog os ⟨#[], #[], []⟩ with heap := layAt 0 Rows.laid_internal_strconv_uint64pow10 (layAt 1 Rows.laid_math_bits_deBruijn32tab (layAt 2 Rows.laid_math_bits_deBruijn64tab (World.holding Tryd.prog os ⟨#[], #[], []⟩).heap)) }
theorem laid_met (os : Os) (args : Array Value) : laidMet Tryd.prog laidL ((laidWorld os).forCall (fun _ _ => 0) ⟨#[], args, []⟩).memory :=
  laidMet_of_run' 8 (by kernel_rfl) (by kernel_rfl)
theorem beginB : Nat.ble (Tryd.prog.globals.size + 1) (begin Tryd.prog (fun _ _ => 0) default).world.heap.size = true := by kernel_rfl
theorem sizeW {W : World} (h : W.ShapedOpen Tryd.prog) : Tryd.prog.globals.size ≤ W.heap.size := by
  obtain ⟨o, _, ho, _⟩ := h.2 Tryd.prog.globals.size (Nat.le_refl _) (Nat.le_of_ble_eq_true beginB)
  exact Nat.le_of_lt (Array.getElem?_eq_some_iff.1 ho).1
/-! ### NetpbmWrites -/
theorem nwu5 : Tryd.prog.underlying 5 = some (.int .u8) := by kernel_rfl
theorem nwu22 : Tryd.prog.underlying 22 = some (.slice 5) := by kernel_rfl
theorem nwu3 : Tryd.prog.underlying 3 = some (.int .i64) := by kernel_rfl
theorem cells5 : Tryd.prog.cellsOf 5 = 1 := by kernel_rfl
/-- An image among the arguments. -/
theorem startImage {W : World} {H : Type} {enc : TypeId × Value → H} {μ : Mu} {hp : Heap} (hs : Go.Abs.Start Tryd.prog W μ hp) {R : List Ent} (hsat : Sat hp.next hp R) (hR : ∀ e ∈ R, e.mine = false) {base : Nat} {v : Value} {d : DataW H} {p : List MemPlace} (hval : Value.okWide Tryd.prog W .any base 24 v) (hx : DataW.Trod enc Tryd.prog W 0 (fun _ => true) true 24 v d p) :
    ∃ (x y : Int) (zs : List Int) (a : Option Addr) (c : Nat) (μ' : Mu) (hp' : Heap), Go.Abs.Start Tryd.prog W μ' hp' ∧ Ext μ μ' ∧ VR μ' (.agg #[.int .i64 x, .int .i64 y, .slice a zs.length c]) v ∧ Sat hp'.next hp' (.row a c (zs.map (Value.int .u8)) :: R) ∧ (∀ v ∈ zs, 0 ≤ v ∧ v < 256) ∧ (-(2 ^ 63) ≤ x ∧ x < 2 ^ 63) ∧ (-(2 ^ 63) ≤ y ∧ y < 2 ^ 63) := by
  obtain ⟨v0, v1, v2, y0, y1, y2, n, rfl, _, _, h0, h1, h2⟩ := Go.Joins.open_agg3 Tryd.underlying24 (by kernel_rfl) (by kernel_rfl) hval hx
  obtain ⟨x, e0, _, w0⟩ := DataW.trod_int nwu3 h0
  obtain ⟨y, e1, _, w1⟩ := DataW.trod_int nwu3 h1
  cases e0; cases e1
  obtain ⟨μ', hp', a, c, zs, hs', hx', hv', hsat', hw⟩ := hs.ints hsat hR nwu22 nwu5 cells5 h2
  refine ⟨x, y, zs, a, c, μ', hp', hs', hx', .agg _ _ (.cons _ _ _ _ (.int _ _) (.cons _ _ _ _ (.int _ _) (.cons _ _ _ _ hv' .nil))), hsat', fun v hv => ?_, ?_, ?_⟩
  · have := hw v hv
    simp only [Lit.wf, Bool.and_eq_true, decide_eq_true_eq] at this
    simp [IntKind.min, IntKind.max, IntKind.signed, IntKind.bits] at this
    omega
  · simp only [Lit.wf, Bool.and_eq_true, decide_eq_true_eq] at w0
    simp [IntKind.min, IntKind.max, IntKind.signed, IntKind.bits] at w0
    omega
  · simp only [Lit.wf, Bool.and_eq_true, decide_eq_true_eq] at w1
    simp [IntKind.min, IntKind.max, IntKind.signed, IntKind.bits] at w1
    omega
/-- A slice of bytes among the arguments. -/
theorem startBytes {W : World} {H : Type} {enc : TypeId × Value → H} {μ : Mu} {hp : Heap} (hs : Go.Abs.Start Tryd.prog W μ hp) {R : List Ent} (hsat : Sat hp.next hp R) (hR : ∀ e ∈ R, e.mine = false) {base : Nat} {v : Value} {d : DataW H} {p : List MemPlace} (hval : Value.okWide Tryd.prog W .any base 22 v) (hx : DataW.Trod enc Tryd.prog W 0 (fun _ => true) true 22 v d p) :
    ∃ (zs : List Int) (a : Option Addr) (c : Nat) (μ' : Mu) (hp' : Heap), Go.Abs.Start Tryd.prog W μ' hp' ∧ Ext μ μ' ∧ VR μ' (.slice a zs.length c) v ∧ Sat hp'.next hp' (.row a c (zs.map (Value.int .u8)) :: R) ∧ (∀ v ∈ zs, 0 ≤ v ∧ v < 256) := by
  obtain ⟨a0, l0, c0, rfl⟩ := Go.WideShapes.okWide_slice nwu22 hval
  obtain ⟨fuel, hx⟩ := hx
  obtain ⟨μ', hp', a, c, zs, hs', hx', hv', hsat', hw⟩ := hs.ints hsat hR nwu22 nwu5 cells5 (show DataW.trod enc Tryd.prog W 0 (fun _ => true) true fuel 22 [.slice a0 l0 c0] = some (d, p) from hx)
  refine ⟨zs, a, c, μ', hp', hs', hx', hv', hsat', fun v hv => ?_⟩
  have := hw v hv
  simp only [Lit.wf, Bool.and_eq_true, decide_eq_true_eq] at this
  simp [IntKind.min, IntKind.max, IntKind.signed, IntKind.bits] at this
  omega
theorem rowMine2 {a b : Option Addr} {c d : Nat} {l k : List Value} : ∀ e ∈ [Ent.row a c l, Ent.row b d k], e.mine = false := fun e he => by
  simp only [List.mem_cons, List.not_mem_nil, or_false] at he
  rcases he with rfl | rfl <;> rfl
theorem rowMine {a : Option Addr} {c : Nat} {l : List Value} : ∀ e ∈ [Ent.row a c l], e.mine = false := fun e he => by
  simp only [List.mem_singleton] at he; subst he; rfl
end Go.Proofs.YtgpnjdldpehidaaDoor
