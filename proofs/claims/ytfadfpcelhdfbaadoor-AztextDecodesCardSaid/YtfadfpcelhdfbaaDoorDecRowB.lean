/-
  The bytes of a number in a mode, and the memory at the beginning of a call: under the conditions of the row; no statement of the seat is proved in this file.
-/
import Derived.Test.YtfadfpcelhdfbaaDoorDecExam
import Derived.Test.YtfadfpcelhdfbaaDoorDecTwin
import Derived.Test.YtfadfpcelhdfbaaDoorAbsG
import Derived.Test.YtfadfpcelhdfbaaDoorCards
import Derived.Test.YtfadfpcelhdfbaaDoorTie
import Derived.WalkKit
import Derived.ProofKit
import Derived.OpenShut
import Derived.Deep.DeepHandedRow
import Derived.Lib.LaidTab
open Go Go.Abs Go.Proofs
set_option maxRecDepth 100000
set_option linter.unusedVariables false
namespace Go.Proofs.YtfadfpcelhdfbaaDoor
/-! ### The bytes of a number in a mode: run once by the kernel -/
def isS : Out → ByteArray → Bool
  | .ok (.string s) _, t => s.toList == t.toList
  | _, _ => false
theorem isS_ok {o : Out} {t : ByteArray} (h : isS o t = true) : ∃ h', o = .ok (.string t) h' := by
  unfold isS at h
  split at h
  · rw [bytes_toList_inj (beq_iff_eq.1 h)]; exact ⟨_, rfl⟩
  · cases h
theorem tx64 : ((List.range 5).all fun m => (List.range 32).all fun v => isS (alv.sys 100000 1000 3 64 [.int .i64 (m : Int), .int .i64 (v : Int)] (H0 Tryd.prog)) (tabS m v)) = true := by kernel_rfl
theorem tx58 : ((List.range 5).all fun m => (List.range 32).all fun v => isS (alv.sys 100000 1000 3 58 [.int .i64 (m : Int), .int .i64 (v : Int)] (H0 Tryd.prog)) (tabS m v)) = true := by kernel_rfl
theorem all2' {p : Nat → Nat → Bool} (h : ((List.range 5).all fun m => (List.range 32).all fun v => p m v) = true) {m v : Nat} (hm : m < 5) (hv : v < 32) : p m v = true := by
  rw [List.all_eq_true] at h
  have h := h m (List.mem_range.2 hm)
  rw [List.all_eq_true] at h
  exact h v (List.mem_range.2 hv)
theorem tx_ok {f : Nat} (hf : f = 64 ∨ f = 58) {m v : Nat} (hm : m < 5) (hv : v < 32) {ro0 B0 : Nat} {w0 w : World} {μ : Mu} {h : Heap} {args' : Array Value} (hr : HR Tryd.prog ro0 B0 w0 μ h w) (ha : VRs μ [.int .i64 (m : Int), .int .i64 (v : Int)] args'.toList) :
    Calls Tryd.prog f args' w (Ret Tryd.prog ro0 B0 w0 μ h (.string (tabS m v))) := by
  rcases hf with rfl | rfl
  · obtain ⟨h', he⟩ := isS_ok (all2' tx64 hm hv)
    obtain ⟨n, hn⟩ := good_call (alv.good 100000 1000) he
    exact closed_okA mixed (ng_of ng0) noOra_ok (n := n) rfl (by kernel_rfl) rfl (by rw [g3]; exact hn) hr ha
  · obtain ⟨h', he⟩ := isS_ok (all2' tx58 hm hv)
    obtain ⟨n, hn⟩ := good_call (alv.good 100000 1000) he
    exact closed_okA mixed (ng_of ng0) noOra_ok (n := n) rfl (by kernel_rfl) rfl (by rw [g3]; exact hn) hr ha
def decOra : Ora := fun ro f args h => match args with
  | [] => match f == 11 with
    | true => some (.ok (.bool true) h)
    | false => none
  | [.int .i64 m, .int .i64 v] => match (f == 64 || f == 58) && decide (0 ≤ m) && decide (m < 5) && decide (0 ≤ v) && decide (v < 32) with
    | true => some (.ok (.string (tabS m.toNat v.toNat)) h)
    | false => none
  | _ => none
theorem hOra : HOra decOra := by
  refine ⟨fun ro f args h hf => ?_, fun ro h => rfl, fun ro m v h hm hv => ?_, fun ro m v h hm hv => ?_⟩
  · simp only [List.mem_cons, List.not_mem_nil, or_false, not_or] at hf
    have e1 : (f == 11) = false := by simpa using hf.1
    have e2 : (f == 64) = false := by simpa using hf.2.1
    have e3 : (f == 58) = false := by simpa using hf.2.2
    unfold decOra
    split
    · rw [e1]
    · rw [e2, e3]; rfl
    · rfl
  · unfold decOra
    have e : (((64 : Nat) == 64 || (64 : Nat) == 58) && decide (0 ≤ (m : Int)) && decide ((m : Int) < 5) && decide (0 ≤ (v : Int)) && decide ((v : Int) < 32)) = true := by
      rw [decide_eq_true (show (0 : Int) ≤ m by omega), decide_eq_true (show (m : Int) < 5 by omega), decide_eq_true (show (0 : Int) ≤ v by omega), decide_eq_true (show (v : Int) < 32 by omega)]; rfl
    simp only [e, Int.toNat_natCast]
  · unfold decOra
    have e : (((58 : Nat) == 64 || (58 : Nat) == 58) && decide (0 ≤ (m : Int)) && decide ((m : Int) < 5) && decide (0 ≤ (v : Int)) && decide ((v : Int) < 32)) = true := by
      rw [decide_eq_true (show (0 : Int) ≤ m by omega), decide_eq_true (show (m : Int) < 5 by omega), decide_eq_true (show (0 : Int) ≤ v by omega), decide_eq_true (show (v : Int) < 32 by omega)]; rfl
    simp only [e, Int.toNat_natCast]
theorem ora_ok : OraOk Tryd.prog decOra := by
  refine ⟨fun ro f args h r hor hen ro0 B0 w0 μ w args' hro hr ha => ?_, fun ro f args h r hor => ?_⟩
  · unfold decOra at hor
    split at hor
    · split at hor
      · rename_i hff
        obtain rfl := beq_iff_eq.1 hff
        cases hor
        cases args' with | mk l =>
        cases ha
        exact ex11_ok hr
      · cases hor
    · rename_i m v
      split at hor
      · rename_i hc
        simp only [Bool.and_eq_true, Bool.or_eq_true, beq_iff_eq, decide_eq_true_eq] at hc
        obtain ⟨⟨⟨⟨hf, h1⟩, h2⟩, h3⟩, h4⟩ := hc
        cases hor
        obtain ⟨a, rfl⟩ := Int.eq_ofNat_of_zero_le h1
        obtain ⟨b, rfl⟩ := Int.eq_ofNat_of_zero_le h3
        exact tx_ok hf (m := a) (v := b) (by omega) (by omega) hr ha
      · cases hor
    · cases hor
  · unfold decOra at hor
    split at hor
    · split at hor
      · cases hor; exact Fr.refl _ _
      · cases hor
    · split at hor
      · cases hor; exact Fr.refl _ _
      · cases hor
    · cases hor
end Go.Proofs.YtfadfpcelhdfbaaDoor

open Go Go.Abs Go.Proofs Go.RowKit Go.ChangeShapes
set_option maxRecDepth 100000
set_option linter.unusedVariables false
namespace Go.Proofs.YtfadfpcelhdfbaaDoor
/-! ### What the rows' lists give -/
theorem ownK : ownKnob Tryd.prog.godebug = none := by kernel_rfl
theorem laidB : laidOutB Tryd.prog = true := by kernel_rfl
theorem und4 : Tryd.prog.underlying 4 = some .bool := by kernel_rfl
theorem readB (ts : List TypeId) (h : (ts.all fun t => Tryd.prog.readableRec t && decide (t < Tryd.prog.types.size)) = true) : ∀ t ∈ ts, Tryd.prog.readableRec t = true ∧ t < Tryd.prog.types.size := by
  rw [List.all_eq_true] at h
  intro t ht
  have := h t ht
  rw [Bool.and_eq_true] at this
  exact ⟨this.1, of_decide_eq_true this.2⟩
theorem startW {W : World} (hsz : Tryd.prog.globals.size ≤ W.heap.size) : ∃ (μ : Mu) (hp : Heap), Go.Abs.Start Tryd.prog W μ hp ∧ Sat hp.next hp [] := ⟨_, _, Go.Abs.Start.base hsz, H0_sat⟩
/-! ### A world for the witness -/
def litVals : DataW Unit → List Value
  | .agg ps => ps.map fun d => match d with | .lit (.int k n) => Value.int k n | .agg qs => .agg (qs.map fun d => match d with | .lit (.int k n) => Value.int k n | _ => undef).toArray | _ => undef
  | _ => []
def flatV : List Value → List Value
  | [] => []
  | .agg c :: l => c.toList ++ flatV l
  | v :: l => v :: flatV l
def layAt (g : Nat) (d : DataW Unit) (h : Array Obj) : Array Obj := h.modify g fun
  | .cells _ t frozen => .cells (flatV (litVals d)).toArray t frozen
  | o => o
noncomputable def laidWorld (os : Os) : World :=
  { World.holding Tryd.prog os ⟨#[], #[], []⟩ with heap := layAt 1 Rows.laid_unicode_utf8_first (layAt 2 Rows.laid_unicode_utf8_acceptRanges (World.holding Tryd.prog os ⟨#[], #[], []⟩).heap) }
def laidL : List (String × DataW Unit) := [("unicode/utf8.acceptRanges", Rows.laid_unicode_utf8_acceptRanges), ("unicode/utf8.first", Rows.laid_unicode_utf8_first)]
theorem laid_met (os : Os) (args : Array Value) : laidMet Tryd.prog laidL ((laidWorld os).forCall (fun _ _ => 0) ⟨#[], args, []⟩).memory :=
  laidMet_of_run' 300 (by kernel_rfl) (by kernel_rfl)
theorem beginB : Nat.ble (Tryd.prog.globals.size + 1) (begin Tryd.prog (fun _ _ => 0) default).world.heap.size = true := by kernel_rfl
theorem sizeW {W : World} (h : W.ShapedOpen Tryd.prog) : Tryd.prog.globals.size ≤ W.heap.size := by
  obtain ⟨o, _, ho, _⟩ := h.2 Tryd.prog.globals.size (Nat.le_refl _) (Nat.le_of_ble_eq_true beginB)
  exact Nat.le_of_lt (Array.getElem?_eq_some_iff.1 ho).1
theorem nwu3 : Tryd.prog.underlying 3 = some (.int .i64) := by kernel_rfl
theorem nwu35 : Tryd.prog.underlying 35 = some (.slice 3) := by kernel_rfl
theorem nwu24 : Tryd.prog.underlying 24 = some (.slice 4) := by kernel_rfl
theorem cells3 : Tryd.prog.cellsOf 3 = 1 := by kernel_rfl
theorem cells4 : Tryd.prog.cellsOf 4 = 1 := by kernel_rfl
/-- A slice of bits among the arguments. -/
theorem startBits {W : World} {H : Type} {enc : TypeId × Value → H} {μ : Mu} {hp : Heap} (hs : Go.Abs.Start Tryd.prog W μ hp) {R : List Ent} (hsat : Sat hp.next hp R) (hR : ∀ e ∈ R, e.mine = false) {base : Nat} {v : Value} {d : DataW H} {p : List MemPlace} (hval : Value.okWide Tryd.prog W .any base 24 v) (hx : DataW.Trod enc Tryd.prog W 0 (fun _ => true) true 24 v d p) :
    ∃ (zs : List Bool) (a : Option Addr) (c : Nat) (μ' : Mu) (hp' : Heap), Go.Abs.Start Tryd.prog W μ' hp' ∧ Ext μ μ' ∧ VR μ' (.slice a zs.length c) v ∧ Sat hp'.next hp' (.row a c (zs.map Value.bool) :: R) := by
  obtain ⟨a0, l0, c0, rfl⟩ := Go.WideShapes.okWide_slice nwu24 hval
  obtain ⟨fuel, hx⟩ := hx
  obtain ⟨μ', hp', a, c, zs, hs', hx', hv', hsat'⟩ := hs.bools hsat hR nwu24 und4 cells4 (show DataW.trod enc Tryd.prog W 0 (fun _ => true) true fuel 24 [.slice a0 l0 c0] = some (d, p) from hx)
  exact ⟨zs, a, c, μ', hp', hs', hx', hv', hsat'⟩
/-- A slice of numbers among the arguments. -/
theorem startInts {W : World} {H : Type} {enc : TypeId × Value → H} {μ : Mu} {hp : Heap} (hs : Go.Abs.Start Tryd.prog W μ hp) {R : List Ent} (hsat : Sat hp.next hp R) (hR : ∀ e ∈ R, e.mine = false) {base : Nat} {v : Value} {d : DataW H} {p : List MemPlace} (hval : Value.okWide Tryd.prog W .any base 35 v) (hx : DataW.Trod enc Tryd.prog W 0 (fun _ => true) true 35 v d p) :
    ∃ (zs : List Int) (a : Option Addr) (c : Nat) (μ' : Mu) (hp' : Heap), Go.Abs.Start Tryd.prog W μ' hp' ∧ Ext μ μ' ∧ VR μ' (.slice a zs.length c) v ∧ Sat hp'.next hp' (.row a c (zs.map (Value.int .i64)) :: R) := by
  obtain ⟨a0, l0, c0, rfl⟩ := Go.WideShapes.okWide_slice nwu35 hval
  obtain ⟨fuel, hx⟩ := hx
  obtain ⟨μ', hp', a, c, zs, hs', hx', hv', hsat', _⟩ := hs.ints hsat hR nwu35 nwu3 cells3 (show DataW.trod enc Tryd.prog W 0 (fun _ => true) true fuel 35 [.slice a0 l0 c0] = some (d, p) from hx)
  exact ⟨zs, a, c, μ', hp', hs', hx', hv', hsat'⟩
theorem noneMine : ∀ e ∈ ([] : List Ent), e.mine = false := fun e he => by simp at he
theorem rowMine {a : Option Addr} {c : Nat} {l : List Value} : ∀ e ∈ [Ent.row a c l], e.mine = false := fun e he => by
  simp only [List.mem_singleton] at he; subst he; rfl
end Go.Proofs.YtfadfpcelhdfbaaDoor
