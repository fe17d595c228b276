/-
  What the interpreter says, the machine does: under the conditions that its theorems name; no statement of the seat is proved in this file.
-/
import Derived.Test.YtfadfpcelhdfbaaDoorAbsA
import Derived.LoopN
import Derived.Scope
import Derived.Carry
import Derived.OpenVars
import Derived.ChangeSlices
import Derived.Lib.SmallJoins
import Derived.Lib.LaidTab
import Derived.OpenShut
import Derived.RowKit3
import Derived.ProofKit
import Derived.Deep.Grids
namespace Go.Abs
open Go.RowKit
set_option linter.unusedSimpArgs false
set_option linter.unusedVariables false
variable {ds : List Deferred}
variable {P : Program} {ro0 B0 : Nat} {w0 : World} {μ : Mu} {h : Heap} {w : World} {e : Env} {a : Act}

/-- What must hold behind what the interpreter says. -/
def COk (P : Program) (ds : List Deferred) (ro0 B0 : Nat) (w0 : World) (μ : Mu) (Q : Exit → Act → World → Prop) : COut → Prop
  | .normal e' h' => ∀ μ' w' a', Ext μ μ' → HR P ro0 B0 w0 μ' h' w' → ER ds μ' e' a' → Q .normal a' w'
  | .exit id e' h' => ∀ μ' w' a', Ext μ μ' → HR P ro0 B0 w0 μ' h' w' → ER ds μ' e' a' → Q (.exit id) a' w'
  | .ret e' h' => ∀ μ' w' a', Ext μ μ' → HR P ro0 B0 w0 μ' h' w' → ER ds μ' e' a' → Q .ret a' w'
  | .panic v e' h' => ∀ μ' w' a' v', ER ds μ' e' a' → Ext μ μ' → HR P ro0 B0 w0 μ' h' w' → VR μ' v v' → Q (.panic [{ v := v', recovered := false }]) a' w'
  | .fail => False

theorem COk.ext {μ2 : Mu} {Q : Exit → Act → World → Prop} {r : COut} (hx : Ext μ μ2) (hc : COk P ds ro0 B0 w0 μ Q r) : COk P ds ro0 B0 w0 μ2 Q r := by
  cases r with
  | normal e' h' => exact fun μ' w' a' h1 h2 h3 => hc μ' w' a' (hx.trans h1) h2 h3
  | exit id e' h' => exact fun μ' w' a' h1 h2 h3 => hc μ' w' a' (hx.trans h1) h2 h3
  | ret e' h' => exact fun μ' w' a' h1 h2 h3 => hc μ' w' a' (hx.trans h1) h2 h3
  | panic v e' h' => exact fun μ' w' a' v' h0 h1 h2 h3 => hc μ' w' a' v' h0 (hx.trans h1) h2 h3
  | fail => exact hc

theorem COk.post {Q Q' : Exit → Act → World → Prop} {r : COut} (hq : ∀ x a w, Q x a w → Q' x a w) (hc : COk P ds ro0 B0 w0 μ Q r) : COk P ds ro0 B0 w0 μ Q' r := by
  cases r with
  | normal e' h' => exact fun μ' w' a' h1 h2 h3 => hq _ _ _ (hc μ' w' a' h1 h2 h3)
  | exit id e' h' => exact fun μ' w' a' h1 h2 h3 => hq _ _ _ (hc μ' w' a' h1 h2 h3)
  | ret e' h' => exact fun μ' w' a' h1 h2 h3 => hq _ _ _ (hc μ' w' a' h1 h2 h3)
  | panic v e' h' => exact fun μ' w' a' v' h0 h1 h2 h3 => hq _ _ _ (hc μ' w' a' v' h0 h1 h2 h3)
  | fail => exact hc.elim

theorem wanted_ok {ops : Array Oper} {o : Oper} (he : ER ds μ e a) {b : Bool} (hw : wantedA ops e o = some b) : Region.wanted o (yielded ops a.tmps) = b := by
  unfold wantedA at hw
  unfold Region.wanted
  cases hg : o.guard with
  | none => simp only [hg] at hw ⊢; cases hw; rfl
  | some gw =>
    obtain ⟨j, want⟩ := gw
    simp only [hg] at hw ⊢
    cases hj : ops[j]? with
    | none => simp only [hj] at hw; cases hw; simp [yielded, hj]
    | some g =>
      simp only [hj] at hw
      cases hd : g.dst with
      | none => simp only [hd] at hw; cases hw; simp [yielded, hj, hd]
      | some d =>
        simp only [hd] at hw
        cases hv : e.get d with
        | none => rw [hv] at hw; cases hw
        | some v =>
          obtain ⟨h1, h2⟩ := he.get d v hv
          have h3 : d < a.tmps.size := by rw [he.size]; exact h1
          rw [Array.getD_eq_getD_getElem?] at h2
          have h4 : a.tmps[d]? = some a.tmps[d] := Array.getElem?_eq_getElem h3
          rw [h4, Option.getD_some] at h2
          rw [hv] at hw
          generalize a.tmps[d] = u at h2 h4
          simp only [yielded, hj, hd, Option.bind_some, h4]
          clear h4 hv h1
          split at hw
          · rename_i heq; cases heq
            cases h2; cases hw; cases want <;> cases ‹Bool› <;> rfl
          · rename_i hnb heq
            cases heq
            cases hw
            cases h2 <;> first | (exact absurd rfl (hnb _)) | simp
          · cases hw

structure CallGood (P : Program) (call : Nat → FuncId → List Value → Heap → Out) : Prop where
  ng : NoNG P
  ok : CallOk P call
  fr : CallFr call

/-- One operation of a region that stands in order. -/
theorem op_ok {call : Nat → FuncId → List Value → Heap → Out} (hc : CallGood P call) {ops : Array Oper} {o : Oper} {ro : Nat} (hro : ro0 ≤ ro) (hr : HR P ro0 B0 w0 μ h w) (he : ER ds μ e a) {K : Act → World → Prop} {Q : Exit → Act → World → Prop}
    {next : Env → Heap → COut}
    (hk : ∀ e' h' μ' w' a', Ext μ μ' → HR P ro0 B0 w0 μ' h' w' → ER ds μ' e' a' → COk P ds ro0 B0 w0 μ' Q (next e' h') → K a' w')
    (hq : COk P ds ro0 B0 w0 μ Q (match wantedA ops e o with
      | some true => match stepOp P call ro o e h with
        | .ok v h' => match putA e o.dst v with
          | some e' => next e' h'
          | none => .fail
        | .panic v h' => .panic v e h'
        | .fail => .fail
      | some false => match putA e o.dst undef with
        | some e' => next e' h
        | none => .fail
      | none => .fail)) :
    if Region.wanted o (yielded ops a.tmps) then o.wp P a w K Q ∨ (o.asks P a w ∧ LetsOut Q) else K (a.put o.dst undef) w := by
  split at hq
  · rename_i hw
    rw [wanted_ok he hw, if_pos rfl]
    left
    split at hq
    · rename_i v h' hs
      split at hq
      · rename_i e' hp
        refine step_ok hc.ng hc.ok hro hr he o hs fun μ' w' v' h1 h2 h3 => ?_
        exact hk e' h' μ' w' _ h1 h2 ((he.mono h1).put h3 hp) (hq.ext h1)
      · exact hq.elim
    · rename_i v h' hs
      exact step_panic hc.ng hc.ok hro hr he o hs fun μ' w' v' h1 h2 h3 => hq μ' w' a v' (he.mono h1) h1 h2 h3
    · exact hq.elim
  · rename_i hw
    rw [wanted_ok he hw, if_neg (by simp)]
    split at hq
    · rename_i e' hp
      exact hk e' h μ w _ (Ext.refl _) hr (he.put (VR.undef _) hp) hq
    · exact hq.elim
  · exact hq.elim

theorem runOps_ok {call : Nat → FuncId → List Value → Heap → Out} (hc : CallGood P call) {ops : Array Oper} {ro : Nat} (hro : ro0 ≤ ro) {Q : Exit → Act → World → Prop} : ∀ (os : List Oper) (e : Env) (h : Heap) (μ : Mu) (a : Act) (w : World),
    HR P ro0 B0 w0 μ h w → ER ds μ e a → COk P ds ro0 B0 w0 μ Q (runOps P call ops ro os e h) → wpList P ops Q os a w
  | [], e, h, μ, a, w, hr, he, hq => hq μ w a (Ext.refl _) hr he
  | o :: os, e, h, μ, a, w, hr, he, hq => by
    simp only [runOps] at hq
    simp only [wpList]
    exact op_ok hc hro hr he (next := fun e' h' => runOps P call ops ro os e' h') (fun e' h' μ' w' a' _ h2 h3 h4 => runOps_ok hc hro os e' h' μ' a' w' h2 h3 h4) hq

theorem region_ok {call : Nat → FuncId → List Value → Heap → Out} (hc : CallGood P call) {ops : Array Oper} {ro id : Nat} (hro : ro0 ≤ ro) {Q : Exit → Act → World → Prop} (hr : HR P ro0 B0 w0 μ h w) (he : ER ds μ e a)
    (hq : COk P ds ro0 B0 w0 μ Q (runRegion P call ro ops false e h)) : (Code.region id ops false).wp P Q a w := by
  simp only [runRegion, Bool.false_eq_true, if_false] at hq
  exact wp_region_list (runOps_ok hc hro _ _ _ _ _ _ hr he hq)

/-! ### The masks -/
theorem fold_bit (acc : List Nat) (k : Nat) : ∀ (es : List Edge) (s : Nat), (es.foldl (fun s e => if Region.binds .any e then s ||| 2 ^ e.on ||| acc.getD e.on 0 else s) s).testBit k = true →
    s.testBit k = true ∨ ∃ e ∈ es, Region.binds .any e = true ∧ (k = e.on ∨ (acc.getD e.on 0).testBit k = true)
  | [], s, hb => .inl hb
  | e :: es, s, hb => by
    rw [List.foldl_cons] at hb
    rcases fold_bit acc k es _ hb with h1 | ⟨e', h1, h2, h3⟩
    · split at h1
      · rename_i hbind
        rw [Nat.testBit_or, Nat.testBit_or, Nat.testBit_two_pow] at h1
        simp only [Bool.or_eq_true, decide_eq_true_eq] at h1
        rcases h1 with (h1 | h1) | h1
        · exact .inl h1
        · exact .inr ⟨e, by simp, hbind, .inl h1.symm⟩
        · exact .inr ⟨e, by simp, hbind, .inr h1⟩
      · exact .inl h1
    · exact .inr ⟨e', by simp [h1], h2, h3⟩

theorem masks_spec : ∀ (os : List Oper) (acc : List Nat), (masks os acc).length = acc.length + os.length ∧ (∀ i, i < acc.length → (masks os acc).getD i 0 = acc.getD i 0) ∧
    ∀ j o, os[j]? = some o → ∃ acc2 : List Nat, (masks os acc).getD (acc.length + j) 0 = maskOf acc2 o ∧ ∀ i, i < acc.length + j → acc2.getD i 0 = (masks os acc).getD i 0
  | [], acc => ⟨by simp [masks], fun i _ => rfl, fun j o hj => by simp at hj⟩
  | x :: os, acc => by
    obtain ⟨h1, h2, h3⟩ := masks_spec os (acc ++ [maskOf acc x])
    simp only [List.length_append, List.length_cons, List.length_nil] at h1 h2 h3
    refine ⟨by simp only [masks, h1, List.length_cons]; omega, fun i hi => ?_, fun j o hj => ?_⟩
    · simp only [masks]
      rw [h2 i (by omega)]
      simp only [List.getD_eq_getElem?_getD, List.getElem?_append_left hi]
    · simp only [masks]
      cases j with
      | zero =>
        simp at hj; subst hj
        refine ⟨acc, ?_, fun i hi => ?_⟩
        · rw [Nat.add_zero, h2 _ (by omega)]
          simp [List.getD_eq_getElem?_getD]
        · rw [h2 i (by omega)]
          simp only [List.getD_eq_getElem?_getD, List.getElem?_append_left (show i < acc.length by omega)]
      | succ j =>
        obtain ⟨acc2, g1, g2⟩ := h3 j o (by simpa using hj)
        refine ⟨acc2, ?_, fun i hi => g2 i (by omega)⟩
        rw [← g1]; congr 1; omega

theorem tailFrom_ge : ∀ (xs : List Nat) (i m : Nat), m ≤ i → m ≤ tailFrom xs i m ∧ tailFrom xs i m ≤ i + xs.length
  | [], i, m, hm => by simp [tailFrom]; omega
  | x :: xs, i, m, hm => by
    simp only [tailFrom, List.length_cons]
    split
    · have := tailFrom_ge xs (i + 1) m (by omega); omega
    · have := tailFrom_ge xs (i + 1) (i + 1) (by omega); omega
theorem tailFrom_spec : ∀ (xs : List Nat) (i m : Nat), m ≤ i → ∀ j x, xs[j]? = some x → tailFrom xs i m ≤ i + j → x = 2 ^ (i + j) - 1
  | [], i, m, _, j, x, hx, _ => by simp at hx
  | y :: xs, i, m, hm, j, x, hx, hj => by
    simp only [tailFrom] at hj
    cases j with
    | zero =>
      simp at hx; subst hx
      split at hj
      · assumption
      · have := (tailFrom_ge xs (i + 1) (i + 1) (by omega)).1; omega
    | succ j =>
      have e1 : i + (j + 1) = i + 1 + j := by omega
      rw [e1] at hj ⊢
      exact tailFrom_spec xs (i + 1) _ (by split <;> omega) j x (by simpa using hx) hj

end Go.Abs

namespace Go.Abs
open Go.RowKit
set_option linter.unusedSimpArgs false
set_option linter.unusedVariables false
variable {P : Program} {ro0 B0 : Nat} {w0 : World} {call : Nat → FuncId → List Value → Heap → Out} {ops : Array Oper} {ms : List Nat} {pre : List Oper} {ro : Nat}

/-- The run in the text's order. -/
structure Tr (P : Program) (call : Nat → FuncId → List Value → Heap → Out) (ops : Array Oper) (ms : List Nat) (pre : List Oper) (ro : Nat) (E : Nat → Env) (H : Nat → Heap) (V : Nat → Value) (i : Nat) (o : Oper) : Prop where
  step : (wantedA ops (E i) o = some true ∧ stepOp P call (if quietB P ms pre o i then (H i).next else ro) o (E i) (H i) = .ok (V i) (H (i + 1))) ∨ (wantedA ops (E i) o = some false ∧ V i = undef ∧ H (i + 1) = H i)
  put : putA (E i) o.dst (V i) = some (E (i + 1))

def sel {α : Type} (i : Nat) (x : α) (F : Nat → α) (k : Nat) : α := if k = i then x else F k
theorem sel_self {α : Type} (i : Nat) (x : α) (F : Nat → α) : sel i x F i = x := by simp [sel]
theorem sel_ne {α : Type} {i k : Nat} (h : k ≠ i) {x : α} {F : Nat → α} : sel i x F k = F k := by simp [sel, h]

theorem trace : ∀ (os : List Oper) (i : Nat) (e : Env) (h : Heap) (e' : Env) (h' : Heap), runPre P call ops ms pre ro os i e h = .normal e' h' →
    ∃ (E : Nat → Env) (H : Nat → Heap) (V : Nat → Value), E i = e ∧ H i = h ∧ E (i + os.length) = e' ∧ H (i + os.length) = h' ∧ ∀ j o, os[j]? = some o → Tr P call ops ms pre ro E H V (i + j) o
  | [], i, e, h, e', h', hr => by
    simp only [runPre] at hr
    cases hr
    exact ⟨fun _ => e, fun _ => h, fun _ => undef, rfl, rfl, rfl, rfl, fun j o hj => by simp at hj⟩
  | o :: os, i, e, h, e', h', hr => by
    have key : ∀ (v : Value) (h1 : Heap) (e1 : Env), ((wantedA ops e o = some true ∧ stepOp P call (if quietB P ms pre o i then h.next else ro) o e h = .ok v h1) ∨ (wantedA ops e o = some false ∧ v = undef ∧ h1 = h)) →
        putA e o.dst v = some e1 → runPre P call ops ms pre ro os (i + 1) e1 h1 = .normal e' h' →
        ∃ (E : Nat → Env) (H : Nat → Heap) (V : Nat → Value), E i = e ∧ H i = h ∧ E (i + (o :: os).length) = e' ∧ H (i + (o :: os).length) = h' ∧ ∀ j o', (o :: os)[j]? = some o' → Tr P call ops ms pre ro E H V (i + j) o' := fun v h1 e1 hst hpt hrest => by
      obtain ⟨E, H, V, a1, a2, a3, a4, a5⟩ := trace os (i + 1) e1 h1 e' h' hrest
      have hlen : i + (o :: os).length = i + 1 + os.length := by simp only [List.length_cons]; omega
      refine ⟨sel i e E, sel i h H, sel i v V, sel_self _ _ _, sel_self _ _ _, ?_, ?_, fun j o' hj => ?_⟩
      · rw [hlen, sel_ne (by omega)]; exact a3
      · rw [hlen, sel_ne (by omega)]; exact a4
      · cases j with
        | zero =>
          simp at hj; subst hj
          refine ⟨?_, ?_⟩
          · rw [Nat.add_zero, sel_self, sel_self, sel_self, sel_ne (show i + 1 ≠ i by omega), a2]
            exact hst
          · rw [Nat.add_zero, sel_self, sel_self, sel_ne (show i + 1 ≠ i by omega), a1]
            exact hpt
        | succ j =>
          have e2 : i + (j + 1) = i + 1 + j := by omega
          rw [e2]
          obtain ⟨b1, b2⟩ := a5 j o' (by simpa using hj)
          have n1 : i + 1 + j ≠ i := by omega
          have n2 : i + 1 + j + 1 ≠ i := by omega
          refine ⟨?_, ?_⟩
          · rw [sel_ne n1, sel_ne n1, sel_ne n1, sel_ne n2]; exact b1
          · rw [sel_ne n1, sel_ne n1, sel_ne n2]; exact b2
    simp only [runPre] at hr
    split at hr
    · rename_i hw
      split at hr
      · rename_i v h1 hs
        split at hr
        · rename_i e1 hp
          exact key v h1 e1 (.inl ⟨hw, hs⟩) hp hr
        · cases hr
      · cases hr
    · rename_i hw
      split at hr
      · rename_i e1 hp
        exact key undef h e1 (.inr ⟨hw, rfl, rfl⟩) hp hr
      · cases hr
    · cases hr

/-- An environment in which the operations of S have been done. -/
structure At (pre : List Oper) (E0 : Env) (V : Nat → Value) (S : Nat → Prop) (e : Env) : Prop where
  nt : e.nt = E0.nt
  done : ∀ k o d, pre[k]? = some o → S k → o.dst = some d → e.get d = some (V k)
  not : ∀ d, (∀ k o, pre[k]? = some o → S k → o.dst ≠ some d) → e.get d = E0.get d

def Sep (pre : List Oper) : Prop := ∀ (i k : Nat) (o p : Oper), pre[i]? = some o → pre[k]? = some p → i ≠ k → ∀ d : Tmp, p.dst = some d → o.dst ≠ some d

theorem At.put {E0 : Env} {V : Nat → Value} {S : Nat → Prop} {e e' : Env} (hsep : Sep pre) (ha : At pre E0 V S e) {i : Nat} {o : Oper} (hi : pre[i]? = some o) (hp : putA e o.dst (V i) = some e') :
    At pre E0 V (fun j => S j ∨ j = i) e' := by
  cases hd : o.dst with
  | none =>
    rw [hd] at hp; simp only [putA] at hp; cases hp
    refine ⟨ha.nt, fun k p d hk hS hpd => ?_, fun d hno => ha.not d fun k p hk hS => hno k p hk (.inl hS)⟩
    rcases hS with hS | rfl
    · exact ha.done k p d hk hS hpd
    · rw [hi] at hk; cases hk; rw [hd] at hpd; cases hpd
  | some t =>
    rw [hd] at hp; simp only [putA] at hp
    split at hp
    · cases hp
      refine ⟨ha.nt, fun k p d hk hS hpd => ?_, fun d hno => ?_⟩
      · rw [Env.get_set]
        by_cases hki : k = i
        · subst hki
          rw [hi] at hk; cases hk; rw [hd] at hpd; cases hpd
          rw [if_pos rfl]
        · have hne : d ≠ t := fun e2 => by
            subst e2
            exact hsep k i p o hk hi hki _ hd hpd
          rw [if_neg hne]
          exact ha.done k p d hk (hS.resolve_right hki) hpd
      · rw [Env.get_set]
        have hne : d ≠ t := fun e2 => by subst e2; exact hno i o hi (.inr rfl) hd
        rw [if_neg hne]
        exact ha.not d fun k p hk hS => hno k p hk (.inl hS)
    · cases hp

theorem At.congr {E0 : Env} {V : Nat → Value} {S S' : Nat → Prop} {e : Env} (ha : At pre E0 V S e) (hs : ∀ k, k < pre.length → (S k ↔ S' k)) : At pre E0 V S' e := by
  have hlt : ∀ {k o}, pre[k]? = some o → k < pre.length := fun hk => (List.getElem?_eq_some_iff.1 hk).1
  exact ⟨ha.nt, fun k p d hk hS hpd => ha.done k p d hk ((hs k (hlt hk)).2 hS) hpd, fun d hno => ha.not d fun k p hk hS => hno k p hk ((hs k (hlt hk)).1 hS)⟩

theorem At.same {E0 : Env} {V : Nat → Value} {S : Nat → Prop} {e e' : Env} (ha : At pre E0 V S e) (hb : At pre E0 V S e') (d : Nat) : e.get d = e'.get d := by
  by_cases hx : ∃ k o, pre[k]? = some o ∧ S k ∧ o.dst = some d
  · obtain ⟨k, o, h1, h2, h3⟩ := hx
    rw [ha.done k o d h1 h2 h3, hb.done k o d h1 h2 h3]
  · have : ∀ k o, pre[k]? = some o → S k → o.dst ≠ some d := fun k o h1 h2 h3 => hx ⟨k, o, h1, h2, h3⟩
    rw [ha.not d this, hb.not d this]

section
variable {E : Nat → Env} {H : Nat → Heap} {V : Nat → Value}

theorem Tr.at (hsep : Sep pre) (ht : ∀ j o, pre[j]? = some o → Tr P call ops ms pre ro E H V j o) : ∀ i, i ≤ pre.length → At pre (E 0) V (fun k => k < i) (E i)
  | 0, _ => ⟨rfl, fun k o d _ hk _ => by omega, fun d _ => rfl⟩
  | i + 1, hi => by
    have ha := Tr.at hsep ht i (by omega)
    have hg : pre[i]? = some pre[i] := List.getElem?_eq_getElem (by omega)
    exact (ha.put hsep hg (ht i _ hg).put).congr fun k _ => by omega

theorem Tr.nd (ht : ∀ j o, pre[j]? = some o → Tr P call ops ms pre ro E H V j o) {j : Nat} {o : Oper} (hj : pre[j]? = some o) (hd : doerB P o.op = false) : H (j + 1) = H j := by
  rcases (ht j o hj).step with ⟨h1, h2⟩ | ⟨h1, h2, h3⟩
  · unfold doerB at hd
    cases hp : pureB o.op with
    | true => exact (step_pure hp h2).1
    | false =>
      rw [hp] at hd
      simp only [Bool.not_false, Bool.true_and] at hd
      cases hx : readsAt P o.op with
      | none => rw [hx] at hd; cases hd
      | some x => exact (step_read hx h2).1
  · exact h3

theorem Tr.flat (ht : ∀ j o, pre[j]? = some o → Tr P call ops ms pre ro E H V j o) {k : Nat} : ∀ n, k + n ≤ pre.length → (∀ j o, pre[j]? = some o → k ≤ j → j < k + n → doerB P o.op = false) → H (k + n) = H k
  | 0, _, _ => rfl
  | n + 1, hn, hd => by
    have hg : pre[k + n]? = some pre[k + n] := List.getElem?_eq_getElem (by omega)
    rw [← Nat.add_assoc, Tr.nd ht hg (hd _ _ hg (by omega) (by omega))]
    exact Tr.flat ht n (by omega) fun j o hj h1 h2 => hd j o hj h1 (by omega)

theorem Tr.fr (hc : CallFr call) (ht : ∀ j o, pre[j]? = some o → Tr P call ops ms pre ro E H V j o) : ∀ n i, i + n ≤ pre.length → Fr 0 (H i) (H (i + n))
  | 0, i, _ => Fr.refl _ _
  | n + 1, i, hn => by
    have hg : pre[i + n]? = some pre[i + n] := List.getElem?_eq_getElem (by omega)
    refine (Tr.fr hc ht n i (by omega)).trans ?_
    rcases (ht _ _ hg).step with ⟨h1, h2⟩ | ⟨h1, h2, h3⟩
    · have := step_fr hc (.inl h2)
      exact ⟨this.next, fun b hb _ => by omega, this.wf⟩
    · rw [← Nat.add_assoc, h3]; exact Fr.refl _ _
end

end Go.Abs

namespace Go.Abs
open Go.RowKit
set_option linter.unusedSimpArgs false
set_option linter.unusedVariables false
variable {ds : List Deferred}
variable {P : Program} {ro0 B0 : Nat} {w0 : World} {call : Nat → FuncId → List Value → Heap → Out} {ops : Array Oper} {ro : Nat}

def S_ (listed : Array Bool) (i : Nat) : Prop := listed.getD i false = true
def Deps (listed : Array Bool) (o : Oper) : Prop := ∀ e ∈ o.after.toList, Region.binds .any e = true → S_ listed e.on
def Closed (ops : Array Oper) (listed : Array Bool) : Prop := ∀ i o, ops[i]? = some o → S_ listed i → Deps listed o

theorem edges_lt (he : edgesOk ops = true) {i : Nat} {o : Oper} (hi : ops[i]? = some o) {e : Edge} (hm : e ∈ o.after.toList) (hb : Region.binds .any e = true) : e.on < i := by
  unfold edgesOk at he
  rw [List.all_eq_true] at he
  have h1 := he (o, i) (List.mk_mem_zipIdx_iff_getElem?.2 (by rw [Array.getElem?_toList]; exact hi))
  simp only [List.all_eq_true] at h1
  have h2 := h1 e hm
  simpa [hb] using h2

/-- What is before an operation that is listed or ready is listed. -/
theorem ord_S (he : edgesOk ops = true) {listed : Array Bool} (hcl : Closed ops listed) : ∀ (i k : Nat) (o : Oper), ops[i]? = some o → Deps listed o → ordB (masks ops.toList []) k i = true → S_ listed k := by
  intro i
  induction i using Nat.strongRecOn with
  | ind i ih =>
    intro k o hi hd hb
    obtain ⟨_, _, h3⟩ := masks_spec ops.toList []
    obtain ⟨acc2, g1, g2⟩ := h3 i o (by rw [Array.getElem?_toList]; exact hi)
    simp only [List.length_nil, Nat.zero_add] at g1 g2
    unfold ordB at hb
    rw [g1] at hb
    unfold maskOf at hb
    rcases fold_bit acc2 k _ 0 hb with h | ⟨e, h1, h2, h4⟩
    · simp at h
    · have hlt := edges_lt he hi h1 h2
      rcases h4 with rfl | h4
      · exact hd e h1 h2
      · rw [g2 e.on hlt] at h4
        have hsz : e.on < ops.size := Nat.lt_trans hlt (Array.getElem?_eq_some_iff.1 hi).1
        have hg : ops[e.on]? = some ops[e.on] := Array.getElem?_eq_getElem hsz
        exact ih e.on hlt k _ hg (hcl _ _ hg (hd e h1 h2)) h4

theorem tail_before (he : edgesOk ops = true) {listed : Array Bool} (hcl : Closed ops listed) {i : Nat} {o : Oper} (hi : ops[i]? = some o) (hd : Deps listed o) (hm : tailFrom (masks ops.toList []) 0 0 ≤ i) : ∀ k, k < i → S_ listed k := by
  intro k hk
  refine ord_S he hcl i k o hi hd ?_
  have hlen := (masks_spec ops.toList []).1
  simp only [List.length_nil, Nat.zero_add, Array.length_toList] at hlen
  have hsz := (Array.getElem?_eq_some_iff.1 hi).1
  have hg : (masks ops.toList [])[i]? = some ((masks ops.toList [])[i]'(by omega)) := List.getElem?_eq_getElem (by omega)
  have := tailFrom_spec _ 0 0 (Nat.le_refl _) i _ hg (by omega)
  unfold ordB
  rw [List.getD_eq_getElem?_getD, hg, Option.getD_some, this, Nat.zero_add, Nat.testBit_two_pow_sub_one]
  simpa using hk

/-! ### Counting -/
def un : List Bool → Nat
  | [] => 0
  | b :: l => (if b then 0 else 1) + un l
theorem un_set : ∀ {l : List Bool} {i : Nat}, l[i]? = some false → un (l.set i true) + 1 = un l
  | [], i, h => by simp at h
  | b :: l, 0, h => by simp at h; subst h; simp [un]; omega
  | b :: l, i + 1, h => by
    simp at h
    have := un_set h
    simp only [List.set_cons_succ, un]; omega
theorem un_zero : ∀ {l : List Bool}, un l = 0 → ∀ i, i < l.length → l[i]? = some true
  | [], _, i, hi => by simp at hi
  | b :: l, h, i, hi => by
    cases b with
    | false => simp [un] at h
    | true =>
      cases i with
      | zero => rfl
      | succ i => simp only [un, if_true, Nat.zero_add] at h; simpa using un_zero h i (by simpa using hi)
theorem un_replicate : ∀ n, un (List.replicate n false) = n
  | 0 => rfl
  | n + 1 => by simp only [List.replicate_succ, un, un_replicate n]; simp; omega

theorem ready_spec {listed : Array Bool} {j : Nat} (hs : listed.size = ops.size) (hj : j ∈ Region.ready .any ops listed) : ∃ o, ops[j]? = some o ∧ Deps listed o ∧ listed.toList[j]? = some false ∧ j < ops.size := by
  obtain ⟨h1, o, h2, h3⟩ := mem_ready.1 hj
  have hsz := (Array.getElem?_eq_some_iff.1 h2).1
  refine ⟨o, h2, fun e he hb => h3 e (Array.mem_toList_iff.1 he) hb, ?_, hsz⟩
  have hl : j < listed.size := by omega
  rw [Array.getElem?_toList, Array.getElem?_eq_getElem hl]
  simpa [Array.getD_eq_getD_getElem?, Array.getElem?_eq_getElem hl] using h1

theorem ready_of {listed : Array Bool} (hs : listed.size = ops.size) {j : Nat} (hj : j < ops.size) (hn : ¬ S_ listed j) (hd : ∀ o, ops[j]? = some o → Deps listed o) : j ∈ Region.ready .any ops listed := by
  refine mem_ready.2 ⟨?_, ops[j], Array.getElem?_eq_getElem hj, fun e he hb => hd _ (Array.getElem?_eq_getElem hj) e (Array.mem_toList_iff.2 he) hb⟩
  have hl : j < listed.size := by omega
  unfold S_ at hn
  rw [Array.getD_eq_getD_getElem?, Array.getElem?_eq_getElem hl, Option.getD_some] at hn ⊢
  simpa using hn

theorem S_set {listed : Array Bool} {i j : Nat} (hi : i < listed.size) : S_ (listed.setIfInBounds i true) j ↔ S_ listed j ∨ j = i := by
  unfold S_
  rw [Array.getD_eq_getD_getElem?, Array.getD_eq_getD_getElem?, Array.getElem?_setIfInBounds]
  split
  · rename_i e; subst e; simp [hi]
  · rename_i e
    constructor
    · exact .inl
    · rintro (h | h)
      · exact h
      · exact absurd h.symm e

theorem closed_set {listed : Array Bool} (hcl : Closed ops listed) {i : Nat} {o : Oper} (hi : ops[i]? = some o) (hd : Deps listed o) (hl : i < listed.size) : Closed ops (listed.setIfInBounds i true) := by
  intro j p hj hS e he hb
  rw [S_set hl] at hS ⊢
  rcases hS with hS | rfl
  · exact .inl (hcl j p hj hS e he hb)
  · rw [hi] at hj; cases hj
    exact .inl (hd e he hb)

theorem all_listed (he : edgesOk ops = true) {listed : Array Bool} (hs : listed.size = ops.size) (hr : Region.ready .any ops listed = []) : ∀ i, i < ops.size → S_ listed i := by
  intro i
  induction i using Nat.strongRecOn with
  | ind i ih =>
    intro hi
    refine Classical.byContradiction fun hn => ?_
    have : i ∈ Region.ready .any ops listed := ready_of hs hi hn fun o ho e hm hb => by
      have hlt := edges_lt he ho hm hb
      exact ih e.on hlt (by omega)
    rw [hr] at this; cases this

/-- Behind the open part all stands in order. -/
theorem phase2 (hc : CallGood P call) (he : edgesOk ops = true) (hro : ro0 ≤ ro) {Q : Exit → Act → World → Prop} : ∀ (fuel q : Nat) (listed : Array Bool) (e : Env) (h : Heap) (μ : Mu) (a : Act) (w : World),
    tailFrom (masks ops.toList []) 0 0 ≤ q → q ≤ ops.size → listed.size = ops.size → (∀ i, i < ops.size → (S_ listed i ↔ i < q)) → ops.size ≤ q + fuel →
    HR P ro0 B0 w0 μ h w → ER ds μ e a → COk P ds ro0 B0 w0 μ Q (runOps P call ops ro (ops.toList.drop q) e h) → wpAny P .any ops Q fuel listed a w := by
  intro fuel
  induction fuel with
  | zero =>
    intro q listed e h μ a w hm hq hs hS hf hr hea hk
    have hqe : q = ops.size := by omega
    subst hqe
    refine ⟨?_, ?_⟩
    · cases hrd : Region.ready .any ops listed with
      | nil => rfl
      | cons j l =>
        obtain ⟨o, h1, h2, h3, h4⟩ := ready_spec (j := j) hs (by rw [hrd]; simp)
        have := (hS j h4).2 h4
        unfold S_ at this
        rw [Array.getD_eq_getD_getElem?, ← Array.getElem?_toList, h3] at this
        cases this
    · rw [List.drop_eq_nil_of_le (by simp)] at hk
      exact hk μ w a (Ext.refl _) hr hea
  | succ fuel ih =>
    intro q listed e h μ a w hm hq hs hS hf hr hea hk
    have hcl : Closed ops listed := fun i o hi hSi ed hed hb => by
      have hlt := edges_lt he hi hed hb
      have hsz := (Array.getElem?_eq_some_iff.1 hi).1
      have := (hS i hsz).1 hSi
      exact (hS ed.on (by omega)).2 (by omega)
    refine ⟨fun hrd => ?_, fun i hi => ?_⟩
    · have hall := all_listed he hs hrd
      have hqe : q = ops.size := by
        rcases Nat.lt_or_ge q ops.size with hlt | hge
        · have := (hS q hlt).1 (hall q hlt); omega
        · omega
      subst hqe
      rw [List.drop_eq_nil_of_le (by simp)] at hk
      exact hk μ w a (Ext.refl _) hr hea
    · obtain ⟨o, h1, h2, h3, h4⟩ := ready_spec hs hi
      have hnS : ¬ S_ listed i := fun hh => by
        unfold S_ at hh
        rw [Array.getD_eq_getD_getElem?, ← Array.getElem?_toList, h3] at hh
        cases hh
      have hqi : q ≤ i := by
        rcases Nat.lt_or_ge i q with hlt | hge
        · exact absurd ((hS i h4).2 hlt) hnS
        · exact hge
      have hiq : i = q := by
        rcases Nat.lt_or_ge q i with hlt | hge
        · have := (hS q (by omega)).1 (tail_before he hcl h1 h2 (by omega) q hlt); omega
        · omega
      subst hiq
      have hdrop : ops.toList.drop i = o :: ops.toList.drop (i + 1) := by
        rw [List.drop_eq_getElem_cons (by simpa using h4)]
        congr 1
        rw [Array.getElem_toList]
        exact (Array.getElem?_eq_some_iff.1 h1).2
      rw [hdrop] at hk
      simp only [runOps] at hk
      unfold wpOp
      rw [h1]
      refine op_ok hc hro hr hea (next := fun e' h' => runOps P call ops ro (ops.toList.drop (i + 1)) e' h') (fun e' h' μ' w' a' _ g2 g3 g4 => ?_) hk
      exact ih (i + 1) (listed.setIfInBounds i true) e' h' μ' a' w' (by omega) (by omega) (by simpa using hs) (fun j hj => by rw [S_set (by omega), hS j hj]; omega) (by omega) g2 g3 g4

end Go.Abs

namespace Go.Abs
open Go.RowKit
set_option linter.unusedSimpArgs false
set_option linter.unusedVariables false
variable {ds : List Deferred}
variable {P : Program} {ro0 B0 : Nat} {w0 : World} {call : Nat → FuncId → List Value → Heap → Out} {ops : Array Oper} {ms : List Nat} {pre : List Oper} {ro : Nat} {E : Nat → Env} {H : Nat → Heap} {V : Nat → Value}

theorem zip_mem {l : List Oper} {i : Nat} {o : Oper} (h : l[i]? = some o) : (o, i) ∈ l.zipIdx := List.mk_mem_zipIdx_iff_getElem?.2 h

theorem pre_pair (hp : preOk P ops ms pre = true) {i k : Nat} {o p : Oper} (hi : pre[i]? = some o) (hk : pre[k]? = some p) : pairOk P ops ms o i p k = true := by
  unfold preOk at hp
  rw [List.all_eq_true] at hp
  have h1 := hp _ (zip_mem hi)
  simp only [List.all_eq_true] at h1
  exact h1 _ (zip_mem hk)

theorem pre_sep (hp : preOk P ops ms pre = true) : Sep pre := by
  intro i k o p hi hk hne d hpd hod
  have := pre_pair hp hi hk
  simp only [pairOk, hpd, hod, Bool.and_eq_true] at this
  have h1 := this.1.1
  simp at h1
  exact hne h1.symm

theorem pre_look (hp : preOk P ops ms pre = true) {i k : Nat} {o p : Oper} (hi : pre[i]? = some o) (hk : pre[k]? = some p) {d : Tmp} (hd : p.dst = some d) (hl : d ∈ looks ops o) : k < i ∧ ordB ms k i = true := by
  have := pre_pair hp hi hk
  simp only [pairOk, hd, Bool.and_eq_true] at this
  have h1 := this.1.2
  simp only [Bool.or_eq_true, Bool.not_eq_true', Bool.and_eq_true, decide_eq_true_eq] at h1
  rcases h1 with h1 | h1
  · rw [List.contains_eq_mem] at h1
    simp [hl] at h1
  · exact h1

/-- What makes or writes, and does not only make a block. -/
def moverB (P : Program) (o : Op) : Bool := doerB P o && !allocB o
theorem mover_spec {o : Op} (h : moverB P o = true) : doerB P o = true ∧ allocB o = false := by
  unfold moverB at h
  simpa [Bool.and_eq_true] using h
theorem alloc_doer {o : Op} (h : allocB o = true) : doerB P o = true := by
  cases o <;> simp only [allocB] at h <;> try (cases h; done)
  rfl
theorem pre_doers (hp : preOk P ops ms pre = true) {i k : Nat} {o p : Oper} (hi : pre[i]? = some o) (hk : pre[k]? = some p) (hlt : k < i) (h1 : doerB P o.op = true) (h2 : doerB P p.op = true) (h3 : allocB o.op = false ∨ allocB p.op = false) : ordB ms k i = true := by
  have := pre_pair hp hi hk
  simp only [pairOk, Bool.and_eq_true] at this
  have h4 := this.2
  rcases h3 with h3 | h3 <;> simpa [hlt, h1, h2, h3] using h4

theorem look_operand {o : Oper} {d : Tmp} (hx : Operand.tmp d ∈ o.op.operands) : d ∈ looks ops o := by
  unfold looks
  refine List.mem_append_left _ (List.mem_filterMap.2 ⟨.tmp d, by simpa using hx, rfl⟩)

theorem ev_look {e e' : Env} {o : Oper} (h : ∀ d ∈ looks ops o, e.get d = e'.get d) {x : Operand} (hx : x ∈ o.op.operands) : ev P e x = ev P e' x := by
  cases x with
  | tmp d => simp only [ev]; exact h d (look_operand hx)
  | _ => rfl

theorem wanted_look {e e' : Env} {o : Oper} (h : ∀ d ∈ looks ops o, e.get d = e'.get d) : wantedA ops e o = wantedA ops e' o := by
  unfold wantedA
  cases hg : o.guard with
  | none => rfl
  | some gw =>
    obtain ⟨g, want⟩ := gw
    simp only
    cases hj : ops[g]? with
    | none => rfl
    | some x =>
      simp only
      cases hd : x.dst with
      | none => rfl
      | some d =>
        simp only
        rw [h d (by simp [looks, hg, hj, hd])]

theorem reads_mem {o : Oper} {x : Operand} (hx : readsAt P o.op = some x) : x ∈ o.op.operands := by
  obtain ⟨dst, op, type, pos, after, guard⟩ := o
  cases op <;> simp only [readsAt] at hx <;> try (cases hx; done)
  case load => cases hx; simp [Op.operands]
  case slice => cases hx; simp [Op.operands]
  case lookup => cases hx; simp [Op.operands]
  case convert => split at hx <;> cases hx; simp [Op.operands]
theorem turns_mem {o : Oper} {x : Operand} (hx : turnsAt o.op = some x) : x ∈ o.op.operands := by
  obtain ⟨dst, op, type, pos, after, guard⟩ := o
  cases op <;> simp only [turnsAt] at hx <;> try (cases hx; done)
  case store => cases hx; simp [Op.operands]
  case call c =>
    obtain ⟨callee, args, argTypes⟩ := c
    simp only at hx
    split at hx
    · simp only [Op.operands, Call.operands]
      have := Array.mem_of_getElem? hx
      simp [this]
    · cases hx

/-- The open part, in any order. -/
structure Open (P : Program) (call : Nat → FuncId → List Value → Heap → Out) (ops : Array Oper) (ms : List Nat) (pre : List Oper) (ro : Nat) (E : Nat → Env) (H : Nat → Heap) (V : Nat → Value) : Prop where
  good : CallGood P call
  edges : edgesOk ops = true
  mse : ms = masks ops.toList []
  pree : pre = ops.toList.take (tailFrom ms 0 0)
  pok : preOk P ops ms pre = true
  tr : ∀ j o, pre[j]? = some o → Tr P call ops ms pre ro E H V j o
  apart : apartOk P ms pre (E pre.length) = true

theorem Open.len (X : Open P call ops ms pre ro E H V) : pre.length = tailFrom ms 0 0 ∧ pre.length ≤ ops.size := by
  have h1 := (tailFrom_ge ms 0 0 (Nat.le_refl _)).2
  have h2 := (masks_spec ops.toList []).1
  rw [← X.mse] at h2
  simp only [List.length_nil, Array.length_toList, Nat.zero_add] at h1 h2
  rw [X.pree, List.length_take, Array.length_toList]
  omega

theorem Open.at_ (X : Open P call ops ms pre ro E H V) {i : Nat} {o : Oper} : pre[i]? = some o ↔ (ops[i]? = some o ∧ i < pre.length) := by
  constructor
  · intro h
    have hl := (List.getElem?_eq_some_iff.1 h).1
    refine ⟨?_, hl⟩
    rw [X.pree, List.getElem?_take] at h
    split at h
    · rw [Array.getElem?_toList] at h; exact h
    · cases h
  · rintro ⟨h1, h2⟩
    rw [X.len.1] at h2
    rw [X.pree, List.getElem?_take, if_pos h2, Array.getElem?_toList]; exact h1

/-- Blocks that are made later, in the machine's order, than in ours. -/
def Hole (P : Program) (ops : Array Oper) (pre : List Oper) (E : Nat → Env) (H : Nat → Heap) (listed : Array Bool) (k b : Nat) : Prop :=
  ∃ j o, pre[j]? = some o ∧ allocB o.op = true ∧ ¬ S_ listed j ∧ j < k ∧ wantedA ops (E j) o = some true ∧ b = (H j).next

/-- The state of the machine within the open part. -/
structure Mid (X : Open P call ops ms pre ro E H V) (ds : List Deferred) (ro0 B0 : Nat) (w0 : World) (listed : Array Bool) (a : Act) (w : World) (μ : Mu) (e : Env) (k : Nat) (g : Heap) : Prop where
  size : listed.size = ops.size
  closed : Closed ops listed
  below : ∀ j, pre.length ≤ j → ¬ S_ listed j
  at_ : At pre (E 0) V (S_ listed) e
  cut : k ≤ pre.length
  movers : ∀ j o, pre[j]? = some o → moverB P o.op = true → (S_ listed j ↔ j < k)
  allocs : ∀ j o, pre[j]? = some o → allocB o.op = true → S_ listed j → j < k
  next : k = pre.length ∨ ∃ o, pre[k]? = some o ∧ moverB P o.op = true
  hr : HR P ro0 B0 w0 μ g w
  gn : g.next = (H k).next
  hol : ∀ b, Hole P ops pre E H listed k b → g.get b = some .hole
  oth : ∀ b, ¬ Hole P ops pre E H listed k b → g.get b = (H k).get b
  er : ER ds μ e a

/-- What a reader reads is as it was. -/
theorem Open.keep (X : Open P call ops ms pre ro E H V) {i : Nat} {o : Oper} (hi : pre[i]? = some o) {x : Operand} (hx : readsAt P o.op = some x) {b : Nat} (hb : touch (ev P (E i) x) = some (some b)) :
    ∀ n j, j + n ≤ pre.length → b < (H j).next → (∀ c p, pre[c]? = some p → j ≤ c → c < j + n → moverB P p.op = true → freeB ms c i = true) → (H (j + n)).get b = (H j).get b
  | 0, j, _, _, _ => rfl
  | n + 1, j, hn, hlt, hfree => by
    have hsep := pre_sep X.pok
    have hg : pre[j + n]? = some pre[j + n] := List.getElem?_eq_getElem (by omega)
    generalize pre[j + n] = p at hg
    have ih := X.keep hi hx hb n j (by omega) hlt fun c p hc h1 h2 h3 => hfree c p hc h1 (by omega) h3
    rw [← ih, ← Nat.add_assoc]
    have hmono := (Tr.fr X.good.fr X.tr n j (by omega)).next
    cases hd : doerB P p.op with
    | false => rw [Tr.nd X.tr hg hd]
    | true =>
     cases hal : allocB p.op with
     | true =>
      rcases (X.tr _ _ hg).step with ⟨h1, h2⟩ | ⟨h1, h2, h3⟩
      · obtain ⟨blk, hb2⟩ := alloc_push hal h2
        rw [hb2, Heap.get_push, if_neg (by omega)]
      · rw [h3]
     | false =>
      have hfr := hfree (j + n) p hg (by omega) (by omega) (by unfold moverB; rw [hd, hal]; rfl)
      rcases (X.tr _ _ hg).step with ⟨h1, h2⟩ | ⟨h1, h2, h3⟩
      · cases ht : turnsAt p.op with
        | none =>
          have hq : quietB P ms pre p (j + n) = true := by
            unfold quietB
            rw [hd, ht]
            simp only [Option.isNone_none, Bool.and_true, Bool.true_and, List.any_eq_true]
            exact ⟨(o, i), zip_mem hi, by simp [hx, hfr]⟩
          rw [hq, if_pos rfl] at h2
          exact (step_fr X.good.fr (.inl h2)).keep b (by omega) (by omega)
        | some y =>
          refine step_turn ht h2 b (by omega) fun htb => ?_
          have hap := X.apart
          unfold apartOk at hap
          rw [List.all_eq_true] at hap
          have h4 := hap _ (zip_mem hg)
          simp only [ht, List.all_eq_true] at h4
          have h5 := h4 _ (zip_mem hi)
          simp only [hx, hfr, Bool.not_true, Bool.false_or] at h5
          have agree : ∀ (c : Nat) (q : Oper), pre[c]? = some q → ∀ d ∈ looks ops q, (E pre.length).get d = (E c).get d := fun c q hc d hd => by
            have hl := (List.getElem?_eq_some_iff.1 hc).1
            have a1 := Tr.at hsep X.tr pre.length (Nat.le_refl _)
            have a2 := Tr.at hsep X.tr c (by omega)
            by_cases hex : ∃ (k : Nat) (p : Oper), pre[k]? = some p ∧ p.dst = some d
            · obtain ⟨k, p, hk, hpd⟩ := hex
              have := (pre_look X.pok hc hk hpd hd).1
              rw [a1.done k p d hk (by omega) hpd, a2.done k p d hk this hpd]
            · rw [a1.not d fun k p hk _ hpd => hex ⟨k, p, hk, hpd⟩, a2.not d fun k p hk _ hpd => hex ⟨k, p, hk, hpd⟩]
          rw [ev_look (agree _ _ hg) (turns_mem ht), ev_look (agree _ _ hi) (reads_mem hx), htb, hb] at h5
          simp [apartB] at h5
      · rw [h3]

theorem HR.congr {μ : Mu} {g h : Heap} {w : World} (hr : HR P ro0 B0 w0 μ g w) (hn : g.next = h.next) (hg : ∀ b, g.get b = h.get b) : HR P ro0 B0 w0 μ h w := by
  have hl : ∀ b, live h b → live g b := fun b ⟨x, h1, h2⟩ => ⟨x, by rw [hg]; exact h1, h2⟩
  exact { dom := fun b l hb => by rw [← hn]; exact hr.dom b l hb
          undom := fun b hb => by rw [← hg]; exact hr.undom b (by rw [hn]; exact hb)
          ro := by rw [← hn]; exact hr.ro
          glob := hr.glob
          blk := fun b l o hb hb2 hd => hr.blk b l o hb (by rw [hg]; exact hb2) hd
          low := hr.low, high := hr.high
          inj := fun b b' l l' h1 h2 h3 h4 h5 h6 => hr.inj b b' l l' h1 h2 h3 (hl _ h4) (hl _ h5) h6
          below := hr.below, base := hr.base, gl := hr.gl }
theorem HR.unmapped {μ : Mu} {g : Heap} {w : World} (hr : HR P ro0 B0 w0 μ g w) {b : Nat} (hb : g.get b = some .hole) : μ b = none := by
  cases hm : μ b with
  | none => rfl
  | some l =>
    obtain ⟨obj, _, h⟩ := hr.blk b l _ hm hb (by simp)
    cases obj <;> simp [BR] at h
theorem HR.punch {μ : Mu} {g : Heap} {w : World} (hr : HR P ro0 B0 w0 μ g w) : HR P ro0 B0 w0 μ (g.push .hole) w := by
  have hne : ∀ b l, μ b = some l → b ≠ g.next := fun b l hb e => by have := hr.dom b l hb; omega
  have hgt : ∀ b l, μ b = some l → (g.push .hole).get b = g.get b := fun b l hb => by rw [Heap.get_push, if_neg (hne b l hb)]
  have hl : ∀ b l, μ b = some l → live (g.push .hole) b → live g b := fun b l hb ⟨x, h1, h2⟩ => ⟨x, by rw [← hgt b l hb]; exact h1, h2⟩
  exact { dom := fun b l hb => by rw [Heap.next_push]; have := hr.dom b l hb; omega
          undom := fun b hb => by
            rw [Heap.next_push] at hb
            rw [Heap.get_push, if_neg (by omega)]; exact hr.undom b (by omega)
          ro := by rw [Heap.next_push]; have := hr.ro; omega
          glob := hr.glob
          blk := fun b l o hb hb2 hd => hr.blk b l o hb (by rw [← hgt b l hb]; exact hb2) hd
          low := hr.low, high := hr.high
          inj := fun b b' l l' h1 h2 h3 h4 h5 h6 => hr.inj b b' l l' h1 h2 h3 (hl _ _ h1 h4) (hl _ _ h2 h5) h6
          below := hr.below, base := hr.base, gl := hr.gl }
/-- A block that was left open is made. -/
theorem HR.fill {μ : Mu} {g : Heap} {w : World} (hr : HR P ro0 B0 w0 μ g w) {b : Nat} (hh : g.get b = some .hole) (hro : ro0 ≤ b) {l : Loc} {o : Blk} {obj : Obj} (hl : l.blk = w.heap.size) (hb : ∀ own, BR μ own l o obj) :
    HR P ro0 B0 w0 (upd μ b l) (g.put b o) (w.alloc obj) := by
  have hun := hr.unmapped hh
  have hx : Ext μ (upd μ b l) := Ext.upd hun
  have hbn : b < g.next := by
    rcases Nat.lt_or_ge b g.next with h | h
    · exact h
    · rw [hr.undom b h] at hh; cases hh
  have hsz : ∀ b k o', μ b = some k → g.get b = some o' → o' ≠ .dead → k.blk < w.heap.size := fun b k o' hm hg hd => by
    obtain ⟨ob, h1, _⟩ := hr.blk b k o' hm hg hd
    exact (Array.getElem?_eq_some_iff.1 h1).1
  have old : ∀ c, c ≠ b → live (g.put b o) c → live g c := fun c hc ⟨x, hx1, hx2⟩ => by
    rw [Heap.get_put, if_neg hc] at hx1
    exact ⟨x, hx1, hx2⟩
  refine { dom := ?_, undom := ?_, ro := hr.ro, glob := ?_, blk := ?_, low := ?_, high := ?_, inj := ?_, below := ?_, base := hr.base, gl := hr.gl }
  · intro c k hm
    rw [Heap.next_put]
    unfold upd at hm
    split at hm
    · omega
    · exact hr.dom c k hm
  · intro c hc
    rw [Heap.next_put] at hc
    rw [Heap.get_put, if_neg (by omega)]
    exact hr.undom c hc
  · intro c hc
    obtain ⟨k, h1, h2, h3⟩ := hr.glob c hc
    exact ⟨k, hx _ _ h1, h2, h3⟩
  · intro c k o' hm hg hd
    rw [Heap.get_put] at hg
    unfold upd at hm
    split at hm
    · rename_i e
      subst e
      rw [if_pos rfl] at hg
      cases hg; cases hm
      refine ⟨obj, ?_, (hb _).mono hx⟩
      rw [hl]
      show (w.heap.push obj)[w.heap.size]? = some obj
      simp
    · rename_i e
      rw [if_neg e] at hg
      obtain ⟨ob, h1, h2⟩ := hr.blk c k o' hm hg hd
      refine ⟨ob, ?_, h2.mono hx⟩
      rw [← h1]
      exact Below.heap_alloc w obj k.blk (hsz c k o' hm hg hd)
  · intro c k hm hc
    unfold upd at hm
    split at hm
    · omega
    · exact hr.low c k hm hc
  · intro c k hm hc
    unfold upd at hm
    split at hm
    · cases hm; rw [hl]; exact Nat.le_trans hr.base hr.below.size
    · exact hr.high c k hm hc
  · intro c c' k k' hm hm' hc hlc hlc' he
    unfold upd at hm hm'
    split at hm <;> split at hm'
    · omega
    · rename_i e e'
      cases hm
      obtain ⟨x, hx1, hx2⟩ := old c' e' hlc'
      have := hsz c' k' x hm' hx1 hx2
      omega
    · rename_i e e'
      cases hm'
      obtain ⟨x, hx1, hx2⟩ := old c e hlc
      have := hsz c k x hm hx1 hx2
      omega
    · rename_i e e'
      exact hr.inj c c' k k' hm hm' hc (old c e hlc) (old c' e' hlc') he
  · exact hr.below.alloc (Nat.le_trans hr.base hr.below.size) obj

end Go.Abs

namespace Go.Abs
open Go.RowKit
set_option linter.unusedSimpArgs false
set_option linter.unusedVariables false
variable {ds : List Deferred}
variable {P : Program} {ro0 B0 : Nat} {w0 : World} {call : Nat → FuncId → List Value → Heap → Out} {ops : Array Oper} {ms : List Nat} {pre : List Oper} {ro : Nat} {E : Nat → Env} {H : Nat → Heap} {V : Nat → Value}

theorem touch_live {μ : Mu} {h : Heap} {w : World} (hr : HR P ro0 B0 w0 μ h w) {v v' : Value} (hv : VR μ v v') {b : Nat} (ht : touch (some v) = some (some b)) : b < h.next := by
  cases hv <;> simp only [touch] at ht <;> try (cases ht; done)
  case ptr b2 o l hb => cases ht; exact hr.dom _ _ hb
  case slice b2 o n c c' l hb _ _ _ => cases ht; exact hr.dom _ _ hb
  case map b2 l hb => cases ht; exact hr.dom _ _ hb

theorem touch_mapped {μ : Mu} {v v' : Value} (hv : VR μ v v') {b : Nat} (ht : touch (some v) = some (some b)) : ∃ l, μ b = some l := by
  cases hv <;> simp only [touch] at ht <;> try (cases ht; done)
  case ptr b2 o l hb => cases ht; exact ⟨l, hb⟩
  case slice b2 o n c c' l hb _ _ _ => cases ht; exact ⟨l, hb⟩
  case map b2 l hb => cases ht; exact ⟨l, hb⟩

/-- To the next operation that does more than make a block. -/
theorem punches {X : Open P call ops ms pre ro E H V} {listed : Array Bool} {μ : Mu} {w : World} {i : Nat} (hr : HR P ro0 B0 w0 μ (H i) w) (h0 : ∀ j o, pre[j]? = some o → allocB o.op = true → j < i → S_ listed j) :
    ∀ n, i + n ≤ pre.length → (∀ j o, pre[j]? = some o → i ≤ j → j < i + n → moverB P o.op = false) → (∀ j o, pre[j]? = some o → allocB o.op = true → i ≤ j → j < i + n → ¬ S_ listed j) →
    ∃ g, HR P ro0 B0 w0 μ g w ∧ g.next = (H (i + n)).next ∧ (∀ b, Hole P ops pre E H listed (i + n) b → g.get b = some .hole) ∧ ∀ b, ¬ Hole P ops pre E H listed (i + n) b → g.get b = (H (i + n)).get b
  | 0, _, _, _ => ⟨H i, hr, rfl, fun b ⟨j, o, h1, h2, h3, h4, _⟩ => absurd (h0 j o h1 h2 h4) h3, fun _ _ => rfl⟩
  | n + 1, hn, hm, ha => by
    obtain ⟨g, g1, g2, g3, g4⟩ := punches (X := X) hr h0 n (by omega) (fun j o hj h1 h2 => hm j o hj h1 (by omega)) (fun j o hj h h1 h2 => ha j o hj h h1 (by omega))
    have hg : pre[i + n]? = some pre[i + n] := List.getElem?_eq_getElem (by omega)
    generalize pre[i + n] = p at hg
    have hpm := hm (i + n) p hg (by omega) (by omega)
    have same : H (i + n + 1) = H (i + n) → (∀ b, Hole P ops pre E H listed (i + n + 1) b → Hole P ops pre E H listed (i + n) b) → ∃ g, HR P ro0 B0 w0 μ g w ∧ g.next = (H (i + n + 1)).next ∧ (∀ b, Hole P ops pre E H listed (i + n + 1) b → g.get b = some .hole) ∧ ∀ b, ¬ Hole P ops pre E H listed (i + n + 1) b → g.get b = (H (i + n + 1)).get b := fun hs hh =>
      ⟨g, g1, by rw [hs]; exact g2, fun b hb => g3 b (hh b hb), fun b hb => by
        rw [hs]
        refine g4 b fun ⟨j, o, h1, h2, h3, h4, h5, h6⟩ => hb ⟨j, o, h1, h2, h3, by omega, h5, h6⟩⟩
    rw [← Nat.add_assoc]
    cases hal : allocB p.op with
    | false =>
      have hnd : doerB P p.op = false := by
        unfold moverB at hpm
        simpa [hal] using hpm
      refine same (Tr.nd X.tr hg hnd) fun b ⟨j, o, h1, h2, h3, h4, h5, h6⟩ => ⟨j, o, h1, h2, h3, ?_, h5, h6⟩
      rcases Nat.lt_or_ge j (i + n) with h | h
      · exact h
      · have : j = i + n := by omega
        subst this
        rw [hg] at h1; cases h1
        rw [hal] at h2; cases h2
    | true =>
      rcases (X.tr _ _ hg).step with ⟨q1, q2⟩ | ⟨q1, q2, q3⟩
      · obtain ⟨blk, hb2⟩ := alloc_push hal q2
        refine ⟨g.push .hole, g1.punch, by rw [hb2, Heap.next_push, Heap.next_push, g2], fun b ⟨j, o, h1, h2, h3, h4, h5, h6⟩ => ?_, fun b hb => ?_⟩
        · rcases Nat.lt_or_ge j (i + n) with h | h
          · have hH : Hole P ops pre E H listed (i + n) b := ⟨j, o, h1, h2, h3, h, h5, h6⟩
            have := g3 b hH
            rw [Heap.get_push]
            split
            · rfl
            · exact this
          · have : j = i + n := by omega
            subst this
            rw [h6, ← g2, Heap.get_push, if_pos rfl]
        · have hne : b ≠ (H (i + n)).next := fun e => hb ⟨i + n, p, hg, hal, ha _ _ hg hal (by omega) (by omega), by omega, q1, e⟩
          rw [Heap.get_push, if_neg (by rw [g2]; exact hne), hb2, Heap.get_push, if_neg hne]
          exact g4 b fun ⟨j, o, h1, h2, h3, h4, h5, h6⟩ => hb ⟨j, o, h1, h2, h3, by omega, h5, h6⟩
      · refine same q3 fun b ⟨j, o, h1, h2, h3, h4, h5, h6⟩ => ⟨j, o, h1, h2, h3, ?_, h5, h6⟩
        rcases Nat.lt_or_ge j (i + n) with h | h
        · exact h
        · have : j = i + n := by omega
          subst this
          rw [hg] at h1; cases h1
          rw [q1] at h5; cases h5

/-- The next operation that does more than make a block. -/
theorem next_mover (P : Program) (pre : List Oper) : ∀ n i, i + n = pre.length → ∃ m, i + m ≤ pre.length ∧ (∀ j o, pre[j]? = some o → i ≤ j → j < i + m → moverB P o.op = false) ∧ (i + m = pre.length ∨ ∃ o, pre[i + m]? = some o ∧ moverB P o.op = true)
  | 0, i, hi => ⟨0, by omega, fun j o _ h1 h2 => by omega, .inl (by omega)⟩
  | n + 1, i, hi => by
    have hg : pre[i]? = some pre[i] := List.getElem?_eq_getElem (by omega)
    cases hm : moverB P pre[i].op with
    | true => exact ⟨0, by omega, fun j o _ h1 h2 => by omega, .inr ⟨_, hg, hm⟩⟩
    | false =>
      obtain ⟨m, h1, h2, h3⟩ := next_mover P pre n (i + 1) (by omega)
      have e : i + 1 + m = i + (m + 1) := by omega
      rw [e] at h1 h3
      refine ⟨m + 1, h1, fun j o hj h4 h5 => ?_, h3⟩
      rcases Nat.lt_or_ge i j with h | h
      · exact h2 j o hj (by omega) (by omega)
      · have : j = i := by omega
        subst this
        rw [hg] at hj; cases hj; exact hm

theorem Mid.looks {X : Open P call ops ms pre ro E H V} {listed : Array Bool} {a : Act} {w : World} {μ : Mu} {e : Env} {k : Nat} {g : Heap} (M : Mid X ds ro0 B0 w0 listed a w μ e k g) {i : Nat} {o : Oper} (hi : pre[i]? = some o) (hd : Deps listed o) :
    ∀ d ∈ looks ops o, e.get d = (E i).get d := fun d hl => by
  have hsep := pre_sep X.pok
  have hil := (List.getElem?_eq_some_iff.1 hi).1
  have a2 := Tr.at hsep X.tr i (by omega)
  by_cases hex : ∃ (k : Nat) (p : Oper), pre[k]? = some p ∧ p.dst = some d
  · obtain ⟨c, p, hc, hpd⟩ := hex
    obtain ⟨h1, h2⟩ := pre_look X.pok hi hc hpd hl
    have hS : S_ listed c := ord_S X.edges M.closed i c o (X.at_.1 hi).1 hd (by rw [← X.mse]; exact h2)
    rw [M.at_.done c p d hc hS hpd, a2.done c p d hc h1 hpd]
  · rw [M.at_.not d fun k p hk _ hpd => hex ⟨k, p, hk, hpd⟩, a2.not d fun k p hk _ hpd => hex ⟨k, p, hk, hpd⟩]

/-- One operation of the open part. -/
theorem Mid.step {X : Open P call ops ms pre ro E H V} {listed : Array Bool} {a : Act} {w : World} {μ : Mu} {e : Env} {k : Nat} {g : Heap} (M : Mid X ds ro0 B0 w0 listed a w μ e k g) (hro : ro0 ≤ ro) (hro0 : ro0 ≤ (H 0).next) (hwf : WFH (H 0)) {i : Nat} {o : Oper} (hi : pre[i]? = some o) (hd : Deps listed o) (hn : ¬ S_ listed i)
    {K : Act → World → Prop} {Q : Exit → Act → World → Prop} (hK : ∀ μ' w' a' e' k' g', Ext μ μ' → Mid X ds ro0 B0 w0 (listed.setIfInBounds i true) a' w' μ' e' k' g' → K a' w') :
    if Region.wanted o (yielded ops a.tmps) then o.wp P a w K Q ∨ (o.asks P a w ∧ LetsOut Q) else K (a.put o.dst undef) w := by
  have hsep := pre_sep X.pok
  obtain ⟨hio, hil⟩ := X.at_.1 hi
  have hsz := (Array.getElem?_eq_some_iff.1 hio).1
  have hls : i < listed.size := by rw [M.size]; exact hsz
  have hlk := M.looks hi hd
  have htr := X.tr i o hi
  have hordS : ∀ c, ordB ms c i = true → S_ listed c := fun c hc => ord_S X.edges M.closed i c o hio hd (by rw [← X.mse]; exact hc)
  have hmono : ∀ x n, x + n ≤ pre.length → (H x).next ≤ (H (x + n)).next := fun x n hx => (Tr.fr X.good.fr X.tr n x hx).next
  -- the environment behind
  have henv : ∃ e', putA e o.dst (V i) = some e' := by
    have hp := htr.put
    cases hdst : o.dst with
    | none => exact ⟨e, rfl⟩
    | some d =>
      rw [hdst] at hp
      simp only [putA] at hp ⊢
      split at hp
      · rename_i hlt
        have a2 := (Tr.at hsep X.tr i (by omega)).nt
        rw [M.at_.nt, ← a2, if_pos hlt]
        exact ⟨_, rfl⟩
      · cases hp
  obtain ⟨e', he'⟩ := henv
  have hbelow : ∀ j, pre.length ≤ j → ¬ S_ (listed.setIfInBounds i true) j := fun j hj hS => by
    rw [S_set hls] at hS
    rcases hS with hS | rfl
    · exact M.below j hj hS
    · omega
  have hat : At pre (E 0) V (S_ (listed.setIfInBounds i true)) e' := (M.at_.put hsep hi he').congr fun j _ => (S_set hls).symm
  -- what neither makes nor writes
  have afterN : doerB P o.op = false → ∀ (μ' : Mu) (w' : World) (v' : Value), Ext μ μ' → HR P ro0 B0 w0 μ' g w' → VR μ' (V i) v' → K (a.put o.dst v') w' := fun hdo μ' w' v' hx hr hv => by
    have hne : ∀ j p, pre[j]? = some p → doerB P p.op = true → j ≠ i := fun j p hj hdp e2 => by subst e2; rw [hi] at hj; cases hj; rw [hdo] at hdp; cases hdp
    have hole : ∀ b, Hole P ops pre E H (listed.setIfInBounds i true) k b ↔ Hole P ops pre E H listed k b := fun b => by
      constructor
      · rintro ⟨j, p, h1, h2, h3, h4⟩
        exact ⟨j, p, h1, h2, fun h => h3 ((S_set hls).2 (.inl h)), h4⟩
      · rintro ⟨j, p, h1, h2, h3, h4⟩
        refine ⟨j, p, h1, h2, fun h => ?_, h4⟩
        rcases (S_set hls).1 h with h | h
        · exact h3 h
        · exact hne j p h1 (alloc_doer h2) h
    refine hK μ' w' _ e' k g hx ⟨by simpa using M.size, closed_set M.closed hio hd hls, hbelow, hat, M.cut, fun j p hj hdp => ?_, fun j p hj hap hS => ?_, M.next, hr, M.gn, fun b hb => M.hol b ((hole b).1 hb), fun b hb => M.oth b fun h => hb ((hole b).2 h), (M.er.mono hx).put hv he'⟩
    · rw [S_set hls, ← M.movers j p hj hdp]
      exact ⟨fun h => h.resolve_right (hne j p hj (mover_spec hdp).1), .inl⟩
    · rcases (S_set hls).1 hS with h | h
      · exact M.allocs j p hj hap h
      · exact absurd h (hne j p hj (alloc_doer hap))
  -- what only makes a block
  have hik : allocB o.op = true → i < k := fun hal => by
    rcases M.next with hk | ⟨p, hp, hpm⟩
    · omega
    · rcases Nat.lt_or_ge i k with h | h
      · exact h
      · have hne : k ≠ i := fun e2 => by subst e2; rw [hi] at hp; cases hp; rw [(mover_spec hpm).2] at hal; cases hal
        have := hordS k (pre_doers X.pok hi hp (by omega) (alloc_doer hal) (mover_spec hpm).1 (.inr (mover_spec hpm).2))
        have := (M.movers k p hp hpm).1 this; omega
  have hSne : ∀ j, j ≠ i → (S_ (listed.setIfInBounds i true) j ↔ S_ listed j) := fun j hj => by
    rw [S_set hls]; exact ⟨fun h => h.resolve_right hj, .inl⟩
  have afterA : allocB o.op = true → ∀ (μ' : Mu) (w' : World) (v' : Value) (g' : Heap), Ext μ μ' → HR P ro0 B0 w0 μ' g' w' → VR μ' (V i) v' → g'.next = g.next → (∀ b, ¬ (wantedA ops (E i) o = some true ∧ b = (H i).next) → g'.get b = g.get b) → (wantedA ops (E i) o = some true → g'.get (H i).next = (H k).get (H i).next) → K (a.put o.dst v') w' := fun hal μ' w' v' g' hx hr hv hgn hg1 hg2 => by
    have hki := hik hal
    have hnm : ∀ j p, pre[j]? = some p → moverB P p.op = true → j ≠ i := fun j p hj hdp e2 => by subst e2; rw [hi] at hj; cases hj; rw [(mover_spec hdp).2] at hal; cases hal
    -- different blocks
    have hdiff : wantedA ops (E i) o = some true → ∀ j p, pre[j]? = some p → allocB p.op = true → j ≠ i → wantedA ops (E j) p = some true → (H j).next ≠ (H i).next := fun hwi j p hj hap hne hwj => by
      have grow : ∀ x q, pre[x]? = some q → allocB q.op = true → wantedA ops (E x) q = some true → (H (x + 1)).next = (H x).next + 1 := fun x q hx2 hq hwx => by
        rcases (X.tr x q hx2).step with ⟨h1, h2⟩ | ⟨h1, _, _⟩
        · obtain ⟨blk, hb2⟩ := alloc_push hq h2
          rw [hb2, Heap.next_push]
        · rw [hwx] at h1; cases h1
      have hjl := (List.getElem?_eq_some_iff.1 hj).1
      rcases Nat.lt_or_ge j i with h | h
      · have h1 := grow j p hj hap hwj
        have h2 := hmono (j + 1) (i - (j + 1)) (by omega)
        have e3 : j + 1 + (i - (j + 1)) = i := by omega
        rw [e3] at h2; omega
      · have h1 := grow i o hi hal hwi
        have h2 := hmono (i + 1) (j - (i + 1)) (by omega)
        have e3 : i + 1 + (j - (i + 1)) = j := by omega
        rw [e3] at h2; omega
    have hole : ∀ b, Hole P ops pre E H (listed.setIfInBounds i true) k b ↔ (Hole P ops pre E H listed k b ∧ ¬ (wantedA ops (E i) o = some true ∧ b = (H i).next)) := fun b => by
      constructor
      · rintro ⟨j, p, h1, h2, h3, h4, h5, h6⟩
        have hji : j ≠ i := fun e2 => h3 ((S_set hls).2 (.inr e2))
        exact ⟨⟨j, p, h1, h2, fun h => h3 ((S_set hls).2 (.inl h)), h4, h5, h6⟩, fun ⟨q1, q2⟩ => hdiff q1 j p h1 h2 hji h5 (by rw [← h6, q2])⟩
      · rintro ⟨⟨j, p, h1, h2, h3, h4, h5, h6⟩, hnb⟩
        refine ⟨j, p, h1, h2, fun h => ?_, h4, h5, h6⟩
        rcases (S_set hls).1 h with h | h
        · exact h3 h
        · subst h; rw [hi] at h1; cases h1
          exact hnb ⟨h5, h6⟩
    refine hK μ' w' _ e' k g' hx ⟨by simpa using M.size, closed_set M.closed hio hd hls, hbelow, hat, M.cut, fun j p hj hdp => ?_, fun j p hj hap hS => ?_, M.next, hr, by rw [hgn, M.gn], fun b hb => ?_, fun b hb => ?_, (M.er.mono hx).put hv he'⟩
    · rw [hSne j (hnm j p hj hdp)]; exact M.movers j p hj hdp
    · rcases (S_set hls).1 hS with h | h
      · exact M.allocs j p hj hap h
      · subst h; exact hki
    · obtain ⟨q1, q2⟩ := (hole b).1 hb
      rw [hg1 b q2]; exact M.hol b q1
    · by_cases hb2 : wantedA ops (E i) o = some true ∧ b = (H i).next
      · obtain ⟨q1, rfl⟩ := hb2; exact hg2 q1
      · rw [hg1 b hb2]; exact M.oth b fun h => hb ((hole b).2 ⟨h, hb2⟩)
  -- what does more
  have hmv : moverB P o.op = true → k = i ∧ HR P ro0 B0 w0 μ (H i) w ∧ ∀ j p, pre[j]? = some p → allocB p.op = true → j < i → S_ listed j := fun hmo => by
    obtain ⟨hdo, hna⟩ := mover_spec hmo
    have hki : k ≤ i := by
      rcases Nat.lt_or_ge i k with hlt | hge
      · exact absurd ((M.movers i o hi hmo).2 hlt) hn
      · exact hge
    have hke : k = i := by
      rcases M.next with hk | ⟨p, hp, hpm⟩
      · omega
      · rcases Nat.lt_or_ge k i with h | h
        · have := hordS k (pre_doers X.pok hi hp h hdo (mover_spec hpm).1 (.inl hna))
          have := (M.movers k p hp hpm).1 this; omega
        · omega
    subst hke
    have hall : ∀ j p, pre[j]? = some p → allocB p.op = true → j < k → S_ listed j := fun j p hj hap hlt => hordS j (pre_doers X.pok hi hj hlt hdo (alloc_doer hap) (.inl hna))
    exact ⟨rfl, HR.congr M.hr M.gn fun b => M.oth b fun ⟨j, p, h1, h2, h3, h4, _⟩ => h3 (hall j p h1 h2 h4), hall⟩
  have afterM : moverB P o.op = true → ∀ (μ' : Mu) (w' : World) (v' : Value), Ext μ μ' → HR P ro0 B0 w0 μ' (H (i + 1)) w' → VR μ' (V i) v' → K (a.put o.dst v') w' := fun hmo μ' w' v' hx hr hv => by
    obtain ⟨hki, _, hall⟩ := hmv hmo
    subst hki
    obtain ⟨m, m1, m2, m3⟩ := next_mover P pre (pre.length - (k + 1)) (k + 1) (by omega)
    have hun : ∀ j p, pre[j]? = some p → allocB p.op = true → k + 1 ≤ j → j < k + 1 + m → ¬ S_ (listed.setIfInBounds k true) j := fun j p hj hap h1 h2 hS => by
      rw [hSne j (by omega)] at hS
      have := M.allocs j p hj hap hS; omega
    obtain ⟨g', g1, g2, g3, g4⟩ := punches (X := X) (listed := listed.setIfInBounds k true) hr (fun j p hj hap hlt => by
      by_cases e2 : j = k
      · exact (S_set hls).2 (.inr e2)
      · exact (S_set hls).2 (.inl (hall j p hj hap (by omega)))) m m1 m2 hun
    refine hK μ' w' _ e' (k + 1 + m) g' hx ⟨by simpa using M.size, closed_set M.closed hio hd hls, hbelow, hat, m1, fun j p hj hdp => ?_, fun j p hj hap hS => ?_, m3, g1, g2, g3, g4, (M.er.mono hx).put hv he'⟩
    · by_cases e2 : j = k
      · subst e2; exact ⟨fun _ => by omega, fun _ => (S_set hls).2 (.inr rfl)⟩
      · rw [hSne j e2, M.movers j p hj hdp]
        constructor
        · intro h; omega
        · intro h
          rcases Nat.lt_or_ge j (k + 1) with h2 | h2
          · omega
          · have := m2 j p hj h2 h; rw [this] at hdp; cases hdp
    · by_cases e2 : j = k
      · omega
      · rw [hSne j e2] at hS
        have := M.allocs j p hj hap hS; omega
  have hfree : ∀ j p, pre[j]? = some p → moverB P p.op = true → doerB P o.op = false → ((k ≤ j ∧ j < i) ∨ (i ≤ j ∧ j < k)) → freeB ms j i = true := fun j p hj hdp hdo hc => by
    unfold freeB
    rcases hc with ⟨h1, h2⟩ | ⟨h1, h2⟩
    · rw [if_pos h2]
      cases hb : ordB ms j i with
      | false => rfl
      | true => have := (M.movers j p hj hdp).1 (hordS j hb); omega
    · have hne : i ≠ j := fun e2 => by subst e2; rw [hi] at hj; cases hj; rw [(mover_spec hdp).1] at hdo; cases hdo
      rw [if_neg (by omega), if_pos (by omega)]
      cases hb : ordB ms i j with
      | false => rfl
      | true =>
        have hSj := (M.movers j p hj hdp).2 h2
        have hjo := (X.at_.1 hj).1
        exact absurd (ord_S X.edges M.closed j i p hjo (M.closed j p hjo hSj) (by rw [← X.mse]; exact hb)) hn
  rcases htr.step with ⟨h1, h2⟩ | ⟨h1, h2, h3⟩
  · rw [wanted_ok M.er ((wanted_look hlk).trans h1), if_pos rfl]
    left
    cases hdo : doerB P o.op with
    | true =>
      cases hal : allocB o.op with
      | false =>
        have hmo : moverB P o.op = true := by unfold moverB; rw [hdo, hal]; rfl
        obtain ⟨hki, hr', _⟩ := hmv hmo
        have hs : stepOp P call (if quietB P ms pre o i then (H i).next else ro) o e (H i) = .ok (V i) (H (i + 1)) := by
          rw [step_congr (e' := E i) fun x hx => ev_look hlk hx]; exact h2
        refine step_ok X.good.ng X.good.ok (by split; exact hr'.ro; exact hro) hr' M.er o hs fun μ' w' v' g1 g2 g3 => ?_
        exact afterM hmo μ' w' v' g1 g2 g3
      | true =>
        have hki := hik hal
        have hs : stepOp P call (if quietB P ms pre o i then (H i).next else ro) o e (H i) = .ok (V i) (H (i + 1)) := by
          rw [step_congr (e' := E i) fun x hx => ev_look hlk hx]; exact h2
        obtain ⟨blk, n, b1, b2, b3, b4⟩ := alloc_inv (ro0 := ro0) (B0 := B0) (w0 := w0) hal hs
        obtain ⟨obj, l, v', r1, r2, r3, r4⟩ := b4 M.hr M.er
        have hhole : g.get (H i).next = some .hole := M.hol _ ⟨i, o, hi, hal, hn, hki, h1, rfl⟩
        have hwf' : WFH (H (i + 1)) := by
          have := Tr.fr X.good.fr X.tr (i + 1) 0 (by omega)
          rw [Nat.zero_add] at this
          exact this.wf hwf
        have hro' : ro0 ≤ (H i).next := by
          have := hmono 0 i (by omega)
          rw [Nat.zero_add] at this; omega
        have hr2 := HR.fill M.hr hhole hro' r2 r3
        have hx : Ext μ (upd μ (H i).next l) := Ext.upd (M.hr.unmapped hhole)
        unfold Oper.wp
        rw [r1]
        refine afterA hal (upd μ (H i).next l) _ v' (g.put (H i).next blk) hx hr2 (by rw [b2]; exact r4 _ _ (upd_self _ _ _)) rfl (fun b hb => ?_) fun _ => ?_
        · rw [Heap.get_put, if_neg fun e2 => hb ⟨h1, e2⟩]
        · rw [Heap.get_put, if_pos rfl]
          -- the block stays to the next mover
          have stay : ∀ n, i + 1 + n ≤ k → (H (i + 1 + n)).get (H i).next = some blk := by
            intro n
            induction n with
            | zero => intro _; rw [Nat.add_zero, b1, Heap.get_push, if_pos rfl]
            | succ n ih =>
              intro hle
              have ih := ih (by omega)
              have hlt2 : i + 1 + n < pre.length := by have := M.cut; omega
              have hg : pre[i + 1 + n]? = some pre[i + 1 + n] := List.getElem?_eq_getElem hlt2
              generalize pre[i + 1 + n] = p at hg
              rw [← Nat.add_assoc]
              cases hdp : doerB P p.op with
              | false => rw [Tr.nd X.tr hg hdp]; exact ih
              | true =>
                cases hap : allocB p.op with
                | true =>
                  rcases (X.tr _ _ hg).step with ⟨q1, q2⟩ | ⟨q1, q2, q3⟩
                  · obtain ⟨blk2, hb2⟩ := alloc_push hap q2
                    have h5 := hmono (i + 1) n (by have := M.cut; omega)
                    rw [b1, Heap.next_push] at h5
                    rw [hb2, Heap.get_push, if_neg (by omega)]; exact ih
                  · rw [q3]; exact ih
                | false =>
                  -- a mover before k has run, so it is before us
                  have hpm : moverB P p.op = true := by unfold moverB; rw [hdp, hap]; rfl
                  have hSp := (M.movers _ p hg hpm).2 (by omega)
                  have hjo := (X.at_.1 hg).1
                  have ho := pre_doers X.pok hg hi (by omega) hdp hdo (.inl hap)
                  exact absurd (ord_S X.edges M.closed _ i p hjo (M.closed _ p hjo hSp) (by rw [← X.mse]; exact ho)) hn
          have := stay (k - (i + 1)) (by omega)
          have e3 : i + 1 + (k - (i + 1)) = k := by omega
          rw [e3] at this; exact this.symm
    | false =>
      have hs0 : stepOp P call (if quietB P ms pre o i then (H i).next else ro) o e (H i) = .ok (V i) (H (i + 1)) := by
        rw [step_congr (e' := E i) fun x hx => ev_look hlk hx]; exact h2
      have hs : stepOp P call ro o e g = .ok (V i) g := by
        cases hp : pureB o.op with
        | true => exact (step_pure hp hs0).2 ro g
        | false =>
          have hdo2 := hdo
          unfold doerB at hdo2
          rw [hp] at hdo2
          simp only [Bool.not_false, Bool.true_and] at hdo2
          cases hx : readsAt P o.op with
          | none => rw [hx] at hdo2; cases hdo2
          | some x =>
            rcases (step_read hx hs0).2 ro with hall | ⟨b, blk, ht, hg, hdep⟩
            · exact hall _
            · refine hdep _ ?_
              have hxe : ev P e x = ev P (E i) x := ev_look hlk (reads_mem hx)
              have ht' : touch (ev P (E i) x) = some (some b) := by rw [← hxe]; exact ht
              obtain ⟨l, hml⟩ : ∃ l, μ b = some l := by
                cases hev : ev P e x with
                | none => rw [hev] at ht; cases ht
                | some u => rw [hev] at ht; exact touch_mapped (M.er.ev M.hr hev) ht
              have hnh : ¬ Hole P ops pre E H listed k b := fun hh => by
                have := M.hr.unmapped (M.hol b hh)
                rw [hml] at this; cases this
              have hltk : b < (H k).next := by rw [← M.gn]; exact M.hr.dom b l hml
              rw [M.oth b hnh]
              rcases Nat.lt_or_ge i k with hik2 | hki2
              · have hlt : b < (H i).next := by
                  have hfr := Tr.fr X.good.fr X.tr i 0 (by omega)
                  rw [Nat.zero_add] at hfr
                  rcases Nat.lt_or_ge b (H i).next with h | h
                  · exact h
                  · rw [hfr.wf hwf b h] at hg; cases hg
                have := X.keep hi hx ht' (k - i) i (by have := M.cut; omega) hlt fun c p hc q1 q2 q3 => hfree c p hc q3 hdo (.inr ⟨q1, by omega⟩)
                have e3 : i + (k - i) = k := by omega
                rw [e3] at this
                rw [this]; exact hg
              · have := X.keep hi hx ht' (i - k) k (by omega) hltk fun c p hc q1 q2 q3 => hfree c p hc q3 hdo (.inl ⟨q1, by omega⟩)
                have e3 : k + (i - k) = i := by omega
                rw [e3] at this
                rw [← this]; exact hg
      refine step_ok X.good.ng X.good.ok hro M.hr M.er o hs fun μ' w' v' g1 g2 g3 => ?_
      exact afterN hdo μ' w' v' g1 g2 g3
  · rw [wanted_ok M.er ((wanted_look hlk).trans h1), if_neg (by simp)]
    cases hdo : doerB P o.op with
    | true =>
      cases hal : allocB o.op with
      | false =>
        have hmo : moverB P o.op = true := by unfold moverB; rw [hdo, hal]; rfl
        obtain ⟨hki, hr', _⟩ := hmv hmo
        exact afterM hmo μ w undef (Ext.refl _) (by rw [h3]; exact hr') (by rw [h2]; exact VR.undef _)
      | true => exact afterA hal μ w undef g (Ext.refl _) M.hr (by rw [h2]; exact VR.undef _) rfl (fun _ _ => rfl) fun hw => by rw [h1] at hw; cases hw
    | false => exact afterN hdo μ w undef (Ext.refl _) M.hr (by rw [h2]; exact VR.undef _)

theorem phase1 {X : Open P call ops ms pre ro E H V} (hro : ro0 ≤ ro) (hro0 : ro0 ≤ (H 0).next) (hwf : WFH (H 0)) {Q : Exit → Act → World → Prop} : ∀ (fuel : Nat) (listed : Array Bool) (a : Act) (w : World) (μ : Mu) (e : Env) (k : Nat) (g : Heap),
    Mid X ds ro0 B0 w0 listed a w μ e k g → un listed.toList ≤ fuel → COk P ds ro0 B0 w0 μ Q (runOps P call ops ro (ops.toList.drop pre.length) (E pre.length) (H pre.length)) → wpAny P .any ops Q fuel listed a w := by
  intro fuel
  have full : ∀ (f : Nat) (listed : Array Bool) (a : Act) (w : World) (μ : Mu) (e : Env) (k : Nat) (g : Heap), Mid X ds ro0 B0 w0 listed a w μ e k g → un listed.toList ≤ f → COk P ds ro0 B0 w0 μ Q (runOps P call ops ro (ops.toList.drop pre.length) (E pre.length) (H pre.length)) →
      (∀ j, j < pre.length → S_ listed j) → wpAny P .any ops Q f listed a w := fun f listed a w μ e k g M hun hq hall => by
    have hsep := pre_sep X.pok
    obtain ⟨hl1, hl2⟩ := X.len
    have hke : k = pre.length := by
      rcases M.next with hk | ⟨p, hp, hpm⟩
      · exact hk
      · have hlt := (List.getElem?_eq_some_iff.1 hp).1
        have := (M.movers k p hp hpm).1 (hall k hlt); omega
    have hhr : HR P ro0 B0 w0 μ (H pre.length) w := by
      rw [← hke]
      exact HR.congr M.hr M.gn fun b => M.oth b fun ⟨j, p, h1, h2, h3, h4, _⟩ => h3 (hall j (List.getElem?_eq_some_iff.1 h1).1)
    have hS : ∀ i, i < ops.size → (S_ listed i ↔ i < pre.length) := fun i _ => by
      constructor
      · intro h
        rcases Nat.lt_or_ge i pre.length with hlt | hge
        · exact hlt
        · exact absurd h (M.below i hge)
      · exact hall i
    have hcount : ops.size ≤ pre.length + f := by
      have key : ∀ (l : List Bool) (q : Nat), (∀ i, i < l.length → (l[i]? = some true → i < q)) → l.length ≤ q + un l := by
        intro l
        induction l with
        | nil => intro q _; simp
        | cons b l ih =>
          intro q hb
          cases b with
          | false =>
            have := ih (q) fun i hi h => by have := hb (i + 1) (by simpa using hi) (by simpa using h); omega
            simp only [un, List.length_cons]; simp; omega
          | true =>
            have hq := hb 0 (by simp) rfl
            have := ih (q - 1) fun i hi h => by have := hb (i + 1) (by simpa using hi) (by simpa using h); omega
            simp only [un, List.length_cons]; simp; omega
      have := key listed.toList pre.length fun i hi h => by
        rw [Array.length_toList, M.size] at hi
        refine (hS i hi).1 ?_
        unfold S_
        rw [Array.getD_eq_getD_getElem?, ← Array.getElem?_toList, h]; rfl
      rw [Array.length_toList, M.size] at this
      omega
    have her : ER ds μ (E pre.length) a := by
      have a1 := Tr.at hsep X.tr pre.length (Nat.le_refl _)
      have a2 : At pre (E 0) V (fun k => k < pre.length) e := M.at_.congr fun j hj => ⟨fun _ => hj, fun _ => hall j hj⟩
      exact ⟨by rw [M.er.size, a2.nt, a1.nt], M.er.defers, fun t v hv => by
        rw [a1.same a2 t] at hv
        have := M.er.get t v hv
        rw [a1.nt, ← a2.nt]; exact this⟩
    exact phase2 X.good X.edges hro f pre.length listed (E pre.length) (H pre.length) μ a w (by rw [hl1, X.mse]; exact Nat.le_refl _) hl2 M.size hS hcount hhr her hq
  induction fuel with
  | zero =>
    intro listed a w μ e k g M hun hq
    refine full 0 listed a w μ e k g M hun hq fun j hj => ?_
    have hl2 := X.len.2
    have := un_zero (Nat.le_zero.1 hun) j (by rw [Array.length_toList, M.size]; omega)
    unfold S_
    rw [Array.getD_eq_getD_getElem?, ← Array.getElem?_toList, this]; rfl
  | succ fuel ih =>
    intro listed a w μ e k g M hun hq
    by_cases hall : ∀ j, j < pre.length → S_ listed j
    · exact full (fuel + 1) listed a w μ e k g M hun hq hall
    · refine ⟨fun hrd => ?_, fun i hi => ?_⟩
      · exact absurd (fun j hj => all_listed X.edges M.size hrd j (by have := X.len.2; omega)) hall
      · obtain ⟨o, h1, h2, h3, h4⟩ := ready_spec M.size hi
        have hnS : ¬ S_ listed i := fun hh => by
          unfold S_ at hh
          rw [Array.getD_eq_getD_getElem?, ← Array.getElem?_toList, h3] at hh
          cases hh
        have hlt : i < pre.length := by
          rcases Nat.lt_or_ge i pre.length with h | h
          · exact h
          · refine absurd (fun j hj => tail_before X.edges M.closed h1 h2 ?_ j (by omega)) hall
            rw [← X.mse, ← X.len.1]; exact h
        unfold wpOp
        rw [h1]
        refine M.step hro hro0 hwf (X.at_.2 ⟨h1, hlt⟩) h2 hnS fun μ' w' a' e' k' g' hx M' => ?_
        refine ih _ a' w' μ' e' k' g' M' ?_ (hq.ext hx)
        have hset := un_set h3
        rw [Array.toList_setIfInBounds]; omega

theorem draw_ok {h : Heap} {w : World} {e : Env} {a : Act} {μ : Mu} (hm : P.follows .mixedOrders = true) (hc : CallGood P call) {id : Nat} (hro : ro0 ≤ ro) {Q : Exit → Act → World → Prop} (hr : HR P ro0 B0 w0 μ h w) (he : ER ds μ e a)
    (hq : COk P ds ro0 B0 w0 μ Q (runRegion P call ro ops true e h)) : (Code.region id ops true).wp P Q a w := by
  simp only [runRegion, if_true] at hq
  split at hq
  · rename_i hpre
    simp only [Bool.and_eq_true] at hpre
    split at hq
    · rename_i e' h' hrun
      split at hq
      · rename_i hap
        obtain ⟨E, H, V, t1, t2, t3, t4, t5⟩ := trace _ _ _ _ _ _ hrun
        simp only [Nat.zero_add] at t3 t4 t5
        have X : Open P call ops (masks ops.toList []) (ops.toList.take (tailFrom (masks ops.toList []) 0 0)) ro E H V :=
          { good := hc, edges := hpre.1, mse := rfl, pree := rfl, pok := hpre.2, tr := t5, apart := by rw [t3]; exact hap }
        refine wp_region_any hm ?_
        have hS0 : ∀ j, ¬ S_ (Array.replicate ops.size false) j := fun j hS => by
          unfold S_ at hS; rw [Array.getD_eq_getD_getElem?, Array.getElem?_replicate] at hS; split at hS <;> cases hS
        obtain ⟨m, m1, m2, m3⟩ := next_mover P (ops.toList.take (tailFrom (masks ops.toList []) 0 0)) (ops.toList.take (tailFrom (masks ops.toList []) 0 0)).length 0 (by omega)
        obtain ⟨g, g1, g2, g3, g4⟩ := punches (X := X) (listed := Array.replicate ops.size false) (i := 0) (ro0 := ro0) (B0 := B0) (w0 := w0) (μ := μ) (w := w.drew) (by rw [t2]; exact hr.drew) (fun j p hj hap hlt => by omega) m m1 m2 (fun j p hj hap _ _ => hS0 j)
        refine phase1 (X := X) (ro0 := ro0) (B0 := B0) (w0 := w0) hro (by rw [t2]; exact hr.ro) (by rw [t2]; exact hr.undom) ops.size _ a _ μ e (0 + m) g ⟨by simp, fun i o _ hS => absurd hS (hS0 i), fun j _ => hS0 j, ?_, m1, fun j o hj hd => ?_, fun j o hj _ hS => absurd hS (hS0 j), m3, g1, g2, g3, g4, he⟩ ?_ ?_
        · rw [t1]
          exact ⟨rfl, fun k o d _ hS _ => absurd hS (hS0 k), fun _ _ => rfl⟩
        · constructor
          · intro hS; exact absurd hS (hS0 j)
          · intro h
            have := m2 j o hj (by omega) h
            rw [this] at hd; cases hd
        · rw [Array.toList_replicate, un_replicate]; exact Nat.le_refl _
        · rw [t3, t4]
          have hlen : (ops.toList.take (tailFrom (masks ops.toList []) 0 0)).length = tailFrom (masks ops.toList []) 0 0 := X.len.1
          rw [hlen]; exact hq
      · exact hq.elim
    · exact hq.elim
  · exact hq.elim

end Go.Abs

namespace Go.Abs
open Go.RowKit
set_option linter.unusedSimpArgs false
set_option linter.unusedVariables false
variable {ds : List Deferred}
variable {P : Program} {ro0 B0 : Nat} {w0 : World} {μ : Mu} {h : Heap} {w : World} {e : Env} {a : Act}

/-! ### Frames of codes -/
def CFr (ro : Nat) (h : Heap) : COut → Prop
  | .normal _ h' => Fr ro h h'
  | .exit _ _ h' => Fr ro h h'
  | .ret _ h' => Fr ro h h'
  | .panic _ _ h' => Fr ro h h'
  | .fail => True

theorem CFr.trans {ro : Nat} {h h1 : Heap} {r : COut} (hf : Fr ro h h1) (hr : CFr ro h1 r) : CFr ro h r := by
  cases r <;> simp only [CFr] at hr ⊢ <;> exact hf.trans hr

theorem runOps_fr {call : Nat → FuncId → List Value → Heap → Out} (hc : CallFr call) {ops : Array Oper} {ro : Nat} : ∀ (os : List Oper) (e : Env) (h : Heap), CFr ro h (runOps P call ops ro os e h)
  | [], e, h => Fr.refl _ _
  | o :: os, e, h => by
    simp only [runOps]
    split
    · split
      · rename_i v h' hs
        split
        · exact CFr.trans (step_fr hc (.inl hs)) (runOps_fr hc os _ _)
        · trivial
      · rename_i v h' hs
        exact step_fr hc (.inr hs)
      · trivial
    · split
      · exact runOps_fr hc os _ _
      · trivial
    · trivial

theorem runPre_fr {call : Nat → FuncId → List Value → Heap → Out} (hc : CallFr call) {ops : Array Oper} {ms : List Nat} {pre : List Oper} {ro : Nat} : ∀ (os : List Oper) (i : Nat) (e : Env) (h : Heap), CFr ro h (runPre P call ops ms pre ro os i e h)
  | [], i, e, h => Fr.refl _ _
  | o :: os, i, e, h => by
    simp only [runPre]
    split
    · split
      · rename_i v h' hs
        have hf : Fr ro h h' := by
          have := step_fr hc (.inl hs)
          split at this
          · exact ⟨this.next, fun b hb hbn => this.keep b hbn hbn, this.wf⟩
          · exact this
        split
        · exact CFr.trans hf (runPre_fr hc os _ _ _)
        · trivial
      · trivial
    · split
      · exact runPre_fr hc os _ _ _
      · trivial
    · trivial

theorem runRegion_fr {call : Nat → FuncId → List Value → Heap → Out} (hc : CallFr call) {ops : Array Oper} {ro : Nat} {draw : Bool} {e : Env} {h : Heap} : CFr ro h (runRegion P call ro ops draw e h) := by
  unfold runRegion
  split
  · simp only
    split
    · split
      · rename_i e' h' hrun
        have h1 := runPre_fr (P := P) hc (ops := ops) (ms := masks ops.toList []) (pre := ops.toList.take (tailFrom (masks ops.toList []) 0 0)) (ro := ro) (ops.toList.take (tailFrom (masks ops.toList []) 0 0)) 0 e h
        rw [hrun] at h1
        split
        · exact CFr.trans h1 (runOps_fr hc _ _ _)
        · trivial
      · trivial
    · trivial
  · exact runOps_fr hc _ _ _

def OFr (ro : Nat) (h : Heap) : Out → Prop
  | .ok _ h' => Fr ro h h'
  | .panic _ h' => Fr ro h h'
  | .fail => True

/-- What is asked of an oracle. -/
structure OraOk (P : Program) (ora : Ora) : Prop where
  ok : ∀ (ro : Nat) (f : FuncId) (args : List Value) (h : Heap) (r : Out), ora ro f args h = some r → enterB P f = true →
    ∀ (ro0 B0 : Nat) (w0 : World) (μ : Mu) (w : World) (args' : Array Value), ro0 ≤ ro → HR P ro0 B0 w0 μ h w → VRs μ args args'.toList → OutOk P f args' ro0 B0 w0 μ w r
  fr : ∀ (ro : Nat) (f : FuncId) (args : List Value) (h : Heap) (r : Out), ora ro f args h = some r → OFr ro h r

theorem resOf_ok {fn : Func} {e : Env} {h : Heap} {v : Value} {h' : Heap} (hr : resOf P fn e h = .ok v h') : h' = h ∧ ∃ vs, resVals P e h fn.results.toList = some vs ∧ ((∃ x, vs = [x] ∧ v = x) ∨ (v = .tuple vs.toArray ∧ vs.length ≠ 1)) := by
  unfold resOf at hr
  split at hr
  · rename_i x2 hx
    cases hr
    exact ⟨rfl, _, hx, .inl ⟨_, rfl, rfl⟩⟩
  · rename_i vs hn hx
    cases hr
    refine ⟨rfl, vs, hx, .inr ⟨rfl, fun hl => ?_⟩⟩
    match vs, hl, hn with
    | [x], _, hn => exact hn x rfl
  · cases hr
theorem resOf_nopanic {fn : Func} {e : Env} {h : Heap} {v : Value} {h' : Heap} : resOf P fn e h ≠ .panic v h' := by
  unfold resOf
  repeat' split
  all_goals simp

theorem callWith_fr {ora : Ora} (ho : OraOk P ora) {code : Nat → Code → Env → Heap → COut} (hcode : ∀ ro c e h, CFr ro h (code ro c e h)) : CallFr (callWith P ora code) := by
  intro ro f args h v h' hs
  unfold callWith at hs
  split at hs
  · rename_i r hr
    have := ho.fr ro f args h r hr
    rcases hs with rfl | rfl <;> exact this
  · split at hs
    · rcases hs with hs | hs <;> cases hs
    · rename_i fn hfn
      split at hs
      · rcases hs with hs | hs <;> cases hs
      · rename_i c hc
        have hcf := hcode ro c (envOf0 args fn.ntmps) h
        split at hs
        · rename_i e2 h2 hrun
          rw [hrun] at hcf
          rcases hs with hs | hs
          · obtain ⟨rfl, _⟩ := resOf_ok hs; exact hcf
          · exact absurd hs resOf_nopanic
        · rename_i e2 h2 hrun
          rw [hrun] at hcf
          rcases hs with hs | hs
          · obtain ⟨rfl, _⟩ := resOf_ok hs; exact hcf
          · exact absurd hs resOf_nopanic
        · rename_i v2 e2 h2 hrun
          rw [hrun] at hcf
          rcases hs with hs | hs
          · cases hs
          · cases hs; exact hcf
        · rcases hs with hs | hs <;> cases hs

theorem runCode_fr {ora : Ora} (ho : OraOk P ora) : ∀ (n ro : Nat) (c : Code) (e : Env) (h : Heap), CFr ro h (runCode P ora n ro c e h)
  | 0, ro, c, e, h => trivial
  | n + 1, ro, c, e, h => by
    have ih := runCode_fr ho n
    cases c <;> simp only [runCode]
    case skip => exact Fr.refl _ _
    case region id ops draw => exact runRegion_fr (callWith_fr ho ih)
    case seq x y =>
      have h1 := ih ro x e h
      split
      · rename_i e' h' hr
        rw [hr] at h1
        exact CFr.trans h1 (ih _ _ _ _)
      · exact h1
    case cond c x y =>
      split
      · exact ih _ _ _ _
      · exact ih _ _ _ _
      · trivial
    case block id b =>
      have h1 := ih ro b e h
      split
      · rename_i j e' h' hr
        rw [hr] at h1
        split <;> exact h1
      · exact h1
    case loop b =>
      have h1 := ih ro b e h
      split
      · rename_i e' h' hr
        rw [hr] at h1
        exact CFr.trans h1 (ih _ _ _ _)
      · exact h1
    case exit => exact Fr.refl _ _
    case ret => exact Fr.refl _ _
    case label => exact Fr.refl _ _
    case scope b => exact ih _ _ _ _
    all_goals trivial

/-! ### Results, arguments -/
def resM (tmps : Array Value) : ResultVar → Sem Value
  | .tmp t => Pure.pure (tmps.getD t undef)
  | .cell c t => do loadVar t (← asAddr (tmps.getD c undef))
theorem results_eq (fn : Func) (tmps : Array Value) : results fn tmps = (do let vs ← fn.results.mapM (resM tmps); Pure.pure (if h : vs.size = 1 then vs[0] else .tuple vs) : Sem Value) := by
  unfold results
  congr 2
theorem run_cell {off : Nat} {l : Loc} {tmps : Array Value} {c : Tmp} {t : TypeId} (hx : tmps.getD c undef = .pointer (some ⟨l.blk, l.off + off, none⟩)) {v : Value} (hv : (loadVar t ⟨l.blk, l.off + off, none⟩).run P w = .ok v w) :
    (resM tmps (.cell c t)).run P w = .ok v w := by
  simp only [resM, hx, asAddr, Sem.run_bind, Sem.run_pure, Result.andThen_ok, hv]

theorem resVals_ok (hr : HR P ro0 B0 w0 μ h w) (he : ER ds μ e a) : ∀ {rs : List ResultVar} {vs : List Value}, resVals P e h rs = some vs →
    ∃ vs', VRs μ vs vs' ∧ (rs.mapM (m := Sem) (resM a.tmps)).run P w = .ok vs' w
  | [], vs, hv => by simp only [resVals] at hv; cases hv; exact ⟨[], .nil, rfl⟩
  | .tmp t :: rs, vs, hv => by
    simp only [resVals] at hv
    split at hv
    · rename_i v hg
      split at hv
      · rename_i vs2 hvs
        cases hv
        obtain ⟨vs', g1, g2⟩ := resVals_ok hr he hvs
        refine ⟨_ :: vs', .cons _ _ _ _ (he.get t v hg).2 g1, ?_⟩
        simp only [List.mapM_cons, resM, Sem.run_bind, Sem.run_pure, Result.andThen_ok, g2]
      · cases hv
    · cases hv
  | .cell c t :: rs, vs, hv => by
    simp only [resVals] at hv
    split at hv
    · rename_i ad hg
      obtain ⟨b, off, sp⟩ := ad
      obtain ⟨l, rfl, hm, hx⟩ := (he.get c _ hg).2.ptr_inv
      split at hv
      · rename_i hagg
        split at hv
        · rename_i n hn
          split at hv
          · rename_i cs hcs
            split at hv
            · rename_i vs2 hvs
              cases hv
              obtain ⟨vs', g1, g2⟩ := resVals_ok hr he hvs
              obtain ⟨cs', k1, k2⟩ := hr.loadCells hm hcs
              refine ⟨.agg cs'.toArray :: vs', .cons _ _ _ _ (.agg _ _ (by simpa using k1)) g1, ?_⟩
              have hc : (resM a.tmps (.cell c t)).run P w = .ok (.agg cs'.toArray) w := run_cell hx (by simp only [loadVar, Sem.run_bind, Sem.run_pure, Result.andThen_ok, run_isAgg' hagg, if_true, run_sizeOf' hn, k2])
              simp only [List.mapM_cons, Sem.run_bind, Sem.run_pure, Result.andThen_ok, g2, hc]
            · cases hv
          · cases hv
        · cases hv
      · rename_i hagg
        split at hv
        · rename_i v1 hcs
          split at hv
          · rename_i vs2 hvs
            cases hv
            obtain ⟨vs', g1, g2⟩ := resVals_ok hr he hvs
            obtain ⟨cs', k1, k2, k3⟩ := hr.read hm hcs
            obtain ⟨v1', rfl, k4⟩ := k1.one
            have k5 := k3 0 v1' rfl
            rw [addr_add] at k5
            simp only [Nat.add_zero] at k5
            refine ⟨v1' :: vs', .cons _ _ _ _ k4 g1, ?_⟩
            have hc : (resM a.tmps (.cell c t)).run P w = .ok v1' w := run_cell hx (by simp only [loadVar, Sem.run_bind, Sem.run_pure, Result.andThen_ok, run_isAgg' hagg, Bool.false_eq_true, if_false, run_load, k5])
            simp only [List.mapM_cons, Sem.run_bind, Sem.run_pure, Result.andThen_ok, g2, hc]
          · cases hv
        · cases hv
      · cases hv
    · cases hv

theorem results_ok (hr : HR P ro0 B0 w0 μ h w) (he : ER ds μ e a) {fn : Func} {v : Value} {h' : Heap} (hv : resOf P fn e h = .ok v h') : h' = h ∧ ∃ v', (results fn a.tmps).run P w = .ok v' w ∧ VR μ v v' := by
  obtain ⟨rfl, vs, h1, h2⟩ := resOf_ok hv
  refine ⟨rfl, ?_⟩
  obtain ⟨vs', g1, g2⟩ := resVals_ok hr he h1
  have hrun : (results fn a.tmps).run P w = .ok (if h : vs'.toArray.size = 1 then vs'.toArray[0] else .tuple vs'.toArray) w := by
    rw [results_eq, Array.mapM_eq_mapM_toList]
    simp [g2]
  rw [hrun]
  rcases h2 with ⟨x, rfl, rfl⟩ | ⟨rfl, hl⟩
  · obtain ⟨x', rfl, hx⟩ := g1.one
    exact ⟨x', by simp, hx⟩
  · refine ⟨.tuple vs'.toArray, ?_, .tuple _ _ (by simpa using g1)⟩
    have : vs'.toArray.size ≠ 1 := by simpa [g1.length] using hl
    rw [dif_neg this]

theorem envOf_get : ∀ (args : List Value) (i : Nat) (e : Env) (t : Nat), (envOf args i e).get t = if i ≤ t ∧ t < i + args.length then args[t - i]? else e.get t
  | [], i, e, t => by simp only [envOf, List.length_nil]; rw [if_neg (by omega)]
  | v :: vs, i, e, t => by
    simp only [envOf, List.length_cons]
    rw [envOf_get vs (i + 1) _ t, Env.get_set]
    by_cases h1 : t = i
    · subst h1
      rw [if_neg (by omega), if_pos rfl, if_pos (by omega)]; simp
    · rw [if_neg h1]
      by_cases h2 : i + 1 ≤ t ∧ t < i + 1 + vs.length
      · rw [if_pos h2, if_pos (by omega)]
        have : t - i = t - (i + 1) + 1 := by omega
        rw [this]; simp
      · rw [if_neg h2, if_neg (by omega)]
theorem envOf_nt : ∀ (args : List Value) (i : Nat) (e : Env), (envOf args i e).nt = e.nt
  | [], _, _ => rfl
  | v :: vs, i, e => by simp only [envOf]; rw [envOf_nt vs]; rfl

theorem get_full {α : Type} : ∀ (d t : Nat), (T.full d : T α).get t = none
  | 0, t => rfl
  | d + 1, 0 => rfl
  | d + 1, t + 1 => by
    by_cases ht : t % 2 = 0
    · simp only [T.full]; rw [T.get_even _ _ _ _ ht]; exact get_full d _
    · simp only [T.full]; rw [T.get_odd _ _ _ _ ht]; exact get_full d _
theorem enter_er {args : List Value} {args' : Array Value} (ha : VRs μ args args'.toList) (nt : Nat) : ER [] μ (envOf0 args nt) { tmps := args' ++ Array.replicate (nt - args'.size) undef, defers := [] } := by
  have hl := ha.length
  rw [Array.length_toList] at hl
  refine ⟨?_, rfl, fun t v hv => ?_⟩
  · simp only [envOf0, envOf_nt, Array.size_append, Array.size_replicate, hl]
  · simp only [envOf0] at hv ⊢
    rw [envOf_get] at hv
    split at hv
    · rename_i hb
      rw [envOf_nt]
      refine ⟨by simp only; omega, ?_⟩
      obtain ⟨v', g1, g2⟩ := ha.get hv
      rw [Nat.sub_zero, Array.getElem?_toList] at g1
      rw [Array.getD_eq_getD_getElem?, Array.getElem?_append_left (by omega), g1]
      exact g2
    · simp [Env.get, get_full] at hv

/-! ### Codes -/
theorem callWith_ok {ora : Ora} (ho : OraOk P ora) {code : Nat → Code → Env → Heap → COut}
    (hcode : ∀ (ds : List Deferred) (ro0 B0 : Nat) (w0 : World) (ro : Nat) (c : Code) (e : Env) (h : Heap) (μ : Mu) (a : Act) (w : World) (Q : Exit → Act → World → Prop), ro0 ≤ ro → HR P ro0 B0 w0 μ h w → ER ds μ e a → COk P ds ro0 B0 w0 μ Q (code ro c e h) → c.wp P Q a w) :
    CallOk P (callWith P ora code) := by
  intro ro f args h hen ro0 B0 w0 μ w args' hro hr ha
  unfold callWith
  split
  · rename_i r hor
    exact ho.ok ro f args h r hor hen ro0 B0 w0 μ w args' hro hr ha
  · obtain ⟨fn, c, hf, hb⟩ := enterB_spec hen
    simp only [hf, hb]
    have her := enter_er ha fn.ntmps
    have key : ∀ (R : Ending → World → Prop), COk P [] ro0 B0 w0 μ (bodyPost P fn R) (code ro c (envOf0 args fn.ntmps) h) → Calls P f args' w R := fun R hq =>
      calls_of_wp hf hb (hcode [] ro0 B0 w0 ro c _ h μ _ w _ hro hr her hq)
    split
    · rename_i e' h' hrun
      rw [hrun] at key
      cases hres : resOf P fn e' h' with
      | fail => trivial
      | panic v h2 => exact absurd hres resOf_nopanic
      | ok v h2 =>
        refine key _ fun μ' w' a' h1 h2' h3 => ?_
        obtain ⟨rfl, v', g1, g2⟩ := results_ok h2' h3 hres
        exact ⟨h3.defers, v', g1, μ', h1, h2', g2⟩
    · rename_i e' h' hrun
      rw [hrun] at key
      cases hres : resOf P fn e' h' with
      | fail => trivial
      | panic v h2 => exact absurd hres resOf_nopanic
      | ok v h2 =>
        refine key _ fun μ' w' a' h1 h2' h3 => ?_
        obtain ⟨rfl, v', g1, g2⟩ := results_ok h2' h3 hres
        exact ⟨h3.defers, v', g1, μ', h1, h2', g2⟩
    · rename_i v e' h' hrun
      rw [hrun] at key
      refine key _ fun μ' w' a' v' h0 h1 h2 h3 => ⟨h0.defers, μ', v', rfl, h1, h2, h3⟩
    · trivial

theorem runCode_ok (hm : P.follows .mixedOrders = true) (hng : NoNG P) {ora : Ora} (ho : OraOk P ora) : ∀ (n : Nat) (ds : List Deferred) (ro0 B0 : Nat) (w0 : World) (ro : Nat) (c : Code) (e : Env) (h : Heap) (μ : Mu) (a : Act) (w : World) (Q : Exit → Act → World → Prop),
    ro0 ≤ ro → HR P ro0 B0 w0 μ h w → ER ds μ e a → COk P ds ro0 B0 w0 μ Q (runCode P ora n ro c e h) → c.wp P Q a w
  | 0, _, _, _, _, _, _, _, _, _, _, _, _, _, _, _, hq => hq.elim
  | n + 1, ds, ro0, B0, w0, ro, c, e, h, μ, a, w, Q, hro, hr, he, hq => by
    have ih := runCode_ok hm hng ho n
    have hcg : CallGood P (callWith P ora (runCode P ora n)) := ⟨hng, callWith_ok ho ih, callWith_fr ho (runCode_fr ho n)⟩
    cases c <;> simp only [runCode] at hq
    case skip => exact wp_skip (hq μ w a (Ext.refl _) hr he)
    case region id ops draw =>
      cases draw with
      | true => exact draw_ok hm hcg hro hr he hq
      | false => exact region_ok hcg hro hr he hq
    case seq x y =>
      refine wp_seq (ih ds ro0 B0 w0 ro x e h μ a w _ hro hr he ?_)
      split at hq
      · rename_i e' h' hrun
        rw [hrun]
        exact fun μ' w' a' h1 h2 h3 => ih ds ro0 B0 w0 ro y e' h' μ' a' w' Q hro h2 h3 (hq.ext h1)
      · rename_i hno
        cases hrun : runCode P ora n ro x e h with
        | normal e' h' => exact absurd hrun (hno e' h')
        | _ => rw [hrun] at hq; exact hq
    case cond c x y =>
      split at hq
      · rename_i hc
        exact wp_cond_true (he.ev hr hc).bool_inv (ih ds ro0 B0 w0 ro x e h μ a w Q hro hr he hq)
      · rename_i hc
        exact wp_cond_false (he.ev hr hc).bool_inv (ih ds ro0 B0 w0 ro y e h μ a w Q hro hr he hq)
      · exact hq.elim
    case block id b =>
      refine wp_block (ih ds ro0 B0 w0 ro b e h μ a w _ hro hr he ?_)
      split at hq
      · rename_i j e' h' hrun
        rw [hrun]
        intro μ' w' a' h1 h2 h3
        simp only [Exit.inBlock]
        split
        · rename_i hj; rw [if_pos hj] at hq; exact hq μ' w' a' h1 h2 h3
        · rename_i hj; rw [if_neg hj] at hq; exact hq μ' w' a' h1 h2 h3
      · rename_i hno
        cases hrun : runCode P ora n ro b e h with
        | exit j e' h' => exact absurd hrun (hno j e' h')
        | _ => rw [hrun] at hq; exact hq
    case loop b =>
      have key : ∀ (m : Nat) (e : Env) (h : Heap) (μ : Mu) (a : Act) (w : World), m ≤ n + 1 → HR P ro0 B0 w0 μ h w → ER ds μ e a → COk P ds ro0 B0 w0 μ Q (runCode P ora m ro (.loop b) e h) → Code.rounds P b Q m a w := by
        intro m
        induction m with
        | zero => intro e h μ a w _ _ _ hq; exact hq.elim
        | succ m ihm =>
          intro e h μ a w hmn hr he hq
          rw [rounds_succ]
          simp only [runCode] at hq
          refine runCode_ok hm hng ho m ds ro0 B0 w0 ro b e h μ a w _ hro hr he ?_
          split at hq
          · rename_i e' h' hrun
            rw [hrun]
            exact fun μ' w' a' h1 h2 h3 => ihm e' h' μ' a' w' (by omega) h2 h3 (hq.ext h1)
          · rename_i hno
            cases hrun : runCode P ora m ro b e h with
            | normal e' h' => exact absurd hrun (hno e' h')
            | _ => rw [hrun] at hq; exact hq
      exact wp_loop_rounds (n + 1) (key (n + 1) e h μ a w (Nat.le_refl _) hr he (by simp only [runCode]; exact hq))
    case exit id => exact wp_exit (hq μ w a (Ext.refl _) hr he)
    case ret => exact wp_ret (hq μ w a (Ext.refl _) hr he)
    case label l => exact wp_label (hq μ w a (Ext.refl _) hr he)
    case scope b =>
      refine wp_scope_straight (ih ds ro0 B0 w0 ro b e h μ a w _ hro hr he ?_)
      cases hrun : runCode P ora n ro b e h with
      | _ => rw [hrun] at hq; exact hq
    all_goals exact hq.elim

/-- What the interpreter says of a call, the machine does. -/
theorem call_ok (hm : P.follows .mixedOrders = true) (hng : NoNG P) {ora : Ora} (ho : OraOk P ora) (n : Nat) : CallOk P (call P ora n) := callWith_ok ho (runCode_ok hm hng ho n)
theorem call_fr {ora : Ora} (ho : OraOk P ora) (n : Nat) : CallFr (call P ora n) := callWith_fr ho (runCode_fr ho n)

end Go.Abs

namespace Go.Abs
open Go.RowKit
set_option linter.unusedSimpArgs false
set_option linter.unusedVariables false
variable {P : Program} {e : Env} {h : Heap}

/-! ### More fuel, the same answer -/
def LeO (a b : Out) : Prop := a = .fail ∨ a = b
def LeC (a b : COut) : Prop := a = .fail ∨ a = b
def LeCall (c d : Nat → FuncId → List Value → Heap → Out) : Prop := ∀ ro f args h, LeO (c ro f args h) (d ro f args h)

theorem step_mono {c d : Nat → FuncId → List Value → Heap → Out} (hc : LeCall c d) (ro : Nat) (o : Oper) (e : Env) (h : Heap) : LeO (stepOp P c ro o e h) (stepOp P d ro o e h) := by
  obtain ⟨dst, op, type, pos, after, guard⟩ := o
  cases op
  case call k =>
    simp only [stepOp]
    split
    · split
      · split
        · split
          · exact hc _ _ _ _
          · exact .inr rfl
        · exact .inr rfl
      · exact .inr rfl
      · exact .inr rfl
    · exact .inr rfl
  case makeFunc f first cap => cases f <;> exact .inr rfl
  case makeMap t r => cases r <;> exact .inr rfl
  all_goals exact .inr rfl

theorem runOps_mono {c d : Nat → FuncId → List Value → Heap → Out} (hc : LeCall c d) {ops : Array Oper} {ro : Nat} : ∀ (os : List Oper) (e : Env) (h : Heap), LeC (runOps P c ops ro os e h) (runOps P d ops ro os e h)
  | [], e, h => .inr rfl
  | o :: os, e, h => by
    simp only [runOps]
    split
    · rcases step_mono (P := P) hc ro o e h with h1 | h1
      · rw [h1]; exact .inl rfl
      · rw [h1]
        split
        · split
          · exact runOps_mono hc os _ _
          · exact .inr rfl
        · exact .inr rfl
        · exact .inr rfl
    · split
      · exact runOps_mono hc os _ _
      · exact .inr rfl
    · exact .inr rfl

theorem runPre_mono {c d : Nat → FuncId → List Value → Heap → Out} (hc : LeCall c d) {ops : Array Oper} {ms : List Nat} {pre : List Oper} {ro : Nat} : ∀ (os : List Oper) (i : Nat) (e : Env) (h : Heap), LeC (runPre P c ops ms pre ro os i e h) (runPre P d ops ms pre ro os i e h)
  | [], i, e, h => .inr rfl
  | o :: os, i, e, h => by
    simp only [runPre]
    split
    · rcases step_mono (P := P) hc (if quietB P ms pre o i then h.next else ro) o e h with h1 | h1
      · rw [h1]; exact .inl rfl
      · rw [h1]
        split
        · split
          · exact runPre_mono hc os _ _ _
          · exact .inr rfl
        · exact .inr rfl
    · split
      · exact runPre_mono hc os _ _ _
      · exact .inr rfl
    · exact .inr rfl

theorem runRegion_mono {c d : Nat → FuncId → List Value → Heap → Out} (hc : LeCall c d) {ops : Array Oper} {ro : Nat} {draw : Bool} {e : Env} {h : Heap} : LeC (runRegion P c ro ops draw e h) (runRegion P d ro ops draw e h) := by
  unfold runRegion
  split
  · simp only
    split
    · rcases runPre_mono (P := P) hc (ops := ops) (ms := masks ops.toList []) (pre := ops.toList.take (tailFrom (masks ops.toList []) 0 0)) (ro := ro) (ops.toList.take (tailFrom (masks ops.toList []) 0 0)) 0 e h with h1 | h1
      · rw [h1]; exact .inl rfl
      · rw [h1]
        split
        · split
          · exact runOps_mono hc _ _ _
          · exact .inr rfl
        · exact .inr rfl
    · exact .inr rfl
  · exact runOps_mono hc _ _ _

def LeCode (c d : Nat → Code → Env → Heap → COut) : Prop := ∀ ro k e h, LeC (c ro k e h) (d ro k e h)

theorem callWith_mono {ora : Ora} {c d : Nat → Code → Env → Heap → COut} (hc : LeCode c d) : LeCall (callWith P ora c) (callWith P ora d) := by
  intro ro f args h
  unfold callWith
  split
  · exact .inr rfl
  · split
    · exact .inr rfl
    · split
      · exact .inr rfl
      · rename_i k _
        rcases hc ro k (envOf0 args _) h with h1 | h1
        · rw [h1]; exact .inl rfl
        · rw [h1]; exact .inr rfl

/-- One layer of 'runCode'. -/
def codeBy (P : Program) (ora : Ora) (k : Nat → Code → Env → Heap → COut) (ro : Nat) (c : Code) (e : Env) (h : Heap) : COut :=
  match c with
  | .skip => .normal e h
  | .region _ ops draw => runRegion P (callWith P ora k) ro ops draw e h
  | .seq a b => match k ro a e h with
    | .normal e' h' => k ro b e' h'
    | r => r
  | .cond c a b => match ev P e c with
    | some (.bool true) => k ro a e h
    | some (.bool false) => k ro b e h
    | _ => .fail
  | .block id b => match k ro b e h with
    | .exit j e' h' => if j = id then .normal e' h' else .exit j e' h'
    | r => r
  | .loop b => match k ro b e h with
    | .normal e' h' => k ro (.loop b) e' h'
    | r => r
  | .exit id => .exit id e h
  | .ret => .ret e h
  | .label _ => .normal e h
  | .scope b => k ro b e h
  | _ => .fail
theorem runCode_succ {ora : Ora} (n ro : Nat) (c : Code) (e : Env) (h : Heap) : runCode P ora (n + 1) ro c e h = codeBy P ora (runCode P ora n) ro c e h := by cases c <;> rfl

theorem codeBy_mono {ora : Ora} {A B : Nat → Code → Env → Heap → COut} (ih : LeCode A B) : LeCode (codeBy P ora A) (codeBy P ora B) := fun ro k e h => by
  cases k <;> simp only [codeBy]
  case skip => exact .inr rfl
  case region id ops draw => exact runRegion_mono (callWith_mono ih)
  case seq x y =>
    rcases ih ro x e h with h1 | h1
    · rw [h1]; exact .inl rfl
    · rw [h1]
      cases B ro x e h with
      | normal e' h' => exact ih _ _ _ _
      | _ => exact .inr rfl
  case cond c x y =>
    split
    · exact ih _ _ _ _
    · exact ih _ _ _ _
    · exact .inr rfl
  case block id b =>
    rcases ih ro b e h with h1 | h1
    · rw [h1]; exact .inl rfl
    · rw [h1]; exact .inr rfl
  case loop b =>
    rcases ih ro b e h with h1 | h1
    · rw [h1]; exact .inl rfl
    · rw [h1]
      cases B ro b e h with
      | normal e' h' => exact ih _ _ _ _
      | _ => exact .inr rfl
  case exit => exact .inr rfl
  case ret => exact .inr rfl
  case label => exact .inr rfl
  case scope b => exact ih _ _ _ _
  all_goals exact .inl rfl

theorem runCode_step {ora : Ora} : ∀ (n : Nat), LeCode (runCode P ora n) (runCode P ora (n + 1))
  | 0 => fun ro k e h => .inl rfl
  | n + 1 => fun ro k e h => by rw [runCode_succ, runCode_succ]; exact codeBy_mono (runCode_step n) ro k e h

theorem runCode_mono {ora : Ora} (n : Nat) : ∀ k, LeCode (runCode P ora n) (runCode P ora (n + k))
  | 0 => fun _ _ _ _ => .inr rfl
  | k + 1 => fun ro c e h => by
    rcases runCode_mono n k ro c e h with h1 | h1
    · exact .inl h1
    · rcases runCode_step (P := P) (ora := ora) (n + k) ro c e h with h2 | h2
      · exact .inl (h1.trans h2)
      · exact .inr (h1.trans h2)
theorem runCode_le {ora : Ora} {n m : Nat} (hn : n ≤ m) : LeCode (runCode P ora n) (runCode P ora m) := by
  have := runCode_mono (P := P) (ora := ora) n (m - n)
  have e1 : n + (m - n) = m := by omega
  rw [e1] at this; exact this

/-! ### Runs without fuel -/
/-- A call comes to an answer, whatever the fuel from some on. -/
def EvF (P : Program) (ora : Ora) (ro : Nat) (f : FuncId) (args : List Value) (h : Heap) (Q : Out → Prop) : Prop := ∃ r, r ≠ .fail ∧ Q r ∧ ∃ n, ∀ m, n ≤ m → call P ora m ro f args h = r
def EvC (P : Program) (ora : Ora) (ro : Nat) (c : Code) (e : Env) (h : Heap) (Q : COut → Prop) : Prop := ∃ r, r ≠ .fail ∧ Q r ∧ ∃ n, ∀ m, n ≤ m → runCode P ora m ro c e h = r
def EvR (P : Program) (ora : Ora) (ro : Nat) (ops : Array Oper) (os : List Oper) (e : Env) (h : Heap) (Q : COut → Prop) : Prop := ∃ r, r ≠ .fail ∧ Q r ∧ ∃ n, ∀ m, n ≤ m → runOps P (callWith P ora (runCode P ora m)) ops ro os e h = r

variable {ora : Ora} {ro : Nat} {Q : COut → Prop}

theorem EvC.mono {c : Code} {Q' : COut → Prop} (hq : ∀ r, Q r → Q' r) (hc : EvC P ora ro c e h Q) : EvC P ora ro c e h Q' := let ⟨r, h1, h2, h3⟩ := hc; ⟨r, h1, hq r h2, h3⟩
theorem EvF.mono {f : FuncId} {args : List Value} {Q Q' : Out → Prop} (hq : ∀ r, Q r → Q' r) (hc : EvF P ora ro f args h Q) : EvF P ora ro f args h Q' := let ⟨r, h1, h2, h3⟩ := hc; ⟨r, h1, hq r h2, h3⟩

theorem ev_skip (hq : Q (.normal e h)) : EvC P ora ro .skip e h Q := ⟨.normal e h, by simp, hq, 1, fun m hm => by obtain ⟨k, rfl⟩ : ∃ k, m = k + 1 := ⟨m - 1, by omega⟩; rfl⟩
theorem ev_label {l : Nat} (hq : Q (.normal e h)) : EvC P ora ro (.label l) e h Q := ⟨.normal e h, by simp, hq, 1, fun m hm => by obtain ⟨k, rfl⟩ : ∃ k, m = k + 1 := ⟨m - 1, by omega⟩; rfl⟩
theorem ev_exit {i : Nat} (hq : Q (.exit i e h)) : EvC P ora ro (.exit i) e h Q := ⟨.exit i e h, by simp, hq, 1, fun m hm => by obtain ⟨k, rfl⟩ : ∃ k, m = k + 1 := ⟨m - 1, by omega⟩; rfl⟩
theorem ev_ret (hq : Q (.ret e h)) : EvC P ora ro .ret e h Q := ⟨.ret e h, by simp, hq, 1, fun m hm => by obtain ⟨k, rfl⟩ : ∃ k, m = k + 1 := ⟨m - 1, by omega⟩; rfl⟩

/-- What follows a code. -/
def Then (next : Env → Heap → Prop) (Q : COut → Prop) : COut → Prop
  | .normal e h => next e h
  | r => Q r
def InBlock (id : Nat) (Q : COut → Prop) : COut → Prop
  | .exit j e h => if j = id then Q (.normal e h) else Q (.exit j e h)
  | r => Q r

theorem ev_seq {x y : Code} (hx : EvC P ora ro x e h (Then (fun e' h' => EvC P ora ro y e' h' Q) Q)) : EvC P ora ro (.seq x y) e h Q := by
  obtain ⟨r, h1, h2, n, h3⟩ := hx
  cases r with
  | normal e' h' =>
    obtain ⟨r2, g1, g2, n2, g3⟩ := h2
    refine ⟨r2, g1, g2, max n n2 + 1, fun m hm => ?_⟩
    obtain ⟨k, rfl⟩ : ∃ k, m = k + 1 := ⟨m - 1, by omega⟩
    rw [runCode_succ]; simp only [codeBy, h3 k (by omega), g3 k (by omega)]
  | fail => exact absurd rfl h1
  | _ =>
    refine ⟨_, h1, h2, n + 1, fun m hm => ?_⟩
    obtain ⟨k, rfl⟩ : ∃ k, m = k + 1 := ⟨m - 1, by omega⟩
    rw [runCode_succ]; simp only [codeBy, h3 k (by omega)]

theorem ev_cond {c : Operand} {x y : Code} {b : Bool} (hc : ev P e c = some (.bool b)) (ht : b = true → EvC P ora ro x e h Q) (hf : b = false → EvC P ora ro y e h Q) : EvC P ora ro (.cond c x y) e h Q := by
  cases b with
  | true =>
    obtain ⟨r, h1, h2, n, h3⟩ := ht rfl
    refine ⟨r, h1, h2, n + 1, fun m hm => ?_⟩
    obtain ⟨k, rfl⟩ : ∃ k, m = k + 1 := ⟨m - 1, by omega⟩
    rw [runCode_succ]; simp only [codeBy, hc, h3 k (by omega)]
  | false =>
    obtain ⟨r, h1, h2, n, h3⟩ := hf rfl
    refine ⟨r, h1, h2, n + 1, fun m hm => ?_⟩
    obtain ⟨k, rfl⟩ : ∃ k, m = k + 1 := ⟨m - 1, by omega⟩
    rw [runCode_succ]; simp only [codeBy, hc, h3 k (by omega)]

theorem ev_block {id : Nat} {b : Code} (hb : EvC P ora ro b e h (InBlock id Q)) : EvC P ora ro (.block id b) e h Q := by
  obtain ⟨r, h1, h2, n, h3⟩ := hb
  cases r with
  | exit j e' h' =>
    simp only [InBlock] at h2
    refine ⟨if j = id then .normal e' h' else .exit j e' h', by split <;> simp, by split at h2 <;> rename_i hj <;> simp only [hj, if_true, if_false] <;> exact h2, n + 1, fun m hm => ?_⟩
    obtain ⟨k, rfl⟩ : ∃ k, m = k + 1 := ⟨m - 1, by omega⟩
    rw [runCode_succ]; simp only [codeBy, h3 k (by omega)]
  | fail => exact absurd rfl h1
  | _ =>
    refine ⟨_, h1, h2, n + 1, fun m hm => ?_⟩
    obtain ⟨k, rfl⟩ : ∃ k, m = k + 1 := ⟨m - 1, by omega⟩
    rw [runCode_succ]; simp only [codeBy, h3 k (by omega)]

theorem ev_loop {b : Code} (hx : EvC P ora ro b e h (Then (fun e' h' => EvC P ora ro (.loop b) e' h' Q) Q)) : EvC P ora ro (.loop b) e h Q := by
  obtain ⟨r, h1, h2, n, h3⟩ := hx
  cases r with
  | normal e' h' =>
    obtain ⟨r2, g1, g2, n2, g3⟩ := h2
    refine ⟨r2, g1, g2, max n n2 + 1, fun m hm => ?_⟩
    obtain ⟨k, rfl⟩ : ∃ k, m = k + 1 := ⟨m - 1, by omega⟩
    rw [runCode_succ]; simp only [codeBy, h3 k (by omega), g3 k (by omega)]
  | fail => exact absurd rfl h1
  | _ =>
    refine ⟨_, h1, h2, n + 1, fun m hm => ?_⟩
    obtain ⟨k, rfl⟩ : ∃ k, m = k + 1 := ⟨m - 1, by omega⟩
    rw [runCode_succ]; simp only [codeBy, h3 k (by omega)]

theorem ev_scope {b : Code} (hb : EvC P ora ro b e h Q) : EvC P ora ro (.scope b) e h Q := by
  obtain ⟨r, h1, h2, n, h3⟩ := hb
  refine ⟨_, h1, h2, n + 1, fun m hm => ?_⟩
  obtain ⟨k, rfl⟩ : ∃ k, m = k + 1 := ⟨m - 1, by omega⟩
  rw [runCode_succ]; simp only [codeBy, h3 k (by omega)]

theorem ev_region {id : Nat} {ops : Array Oper} (hb : EvR P ora ro ops ops.toList e h Q) : EvC P ora ro (.region id ops false) e h Q := by
  obtain ⟨r, h1, h2, n, h3⟩ := hb
  refine ⟨_, h1, h2, n + 1, fun m hm => ?_⟩
  obtain ⟨k, rfl⟩ : ∃ k, m = k + 1 := ⟨m - 1, by omega⟩
  rw [runCode_succ]; simp only [codeBy, runRegion, Bool.false_eq_true, if_false]; exact h3 k (by omega)

/-! ### The operations of a region -/
variable {ops : Array Oper} {os : List Oper} {o : Oper}
theorem evr_nil (hq : Q (.normal e h)) : EvR P ora ro ops [] e h Q := ⟨_, by simp, hq, 0, fun _ _ => rfl⟩

def noCall : Nat → FuncId → List Value → Heap → Out := fun _ _ _ _ => .fail
theorem noCall_le (d : Nat → FuncId → List Value → Heap → Out) : LeCall noCall d := fun _ _ _ _ => .inl rfl

/-- An operation that is no call. -/
theorem evr_op {v : Value} {h' : Heap} {e' : Env} (hw : wantedA ops e o = some true) (hs : stepOp P noCall ro o e h = .ok v h') (hp : putA e o.dst v = some e') (hk : EvR P ora ro ops os e' h' Q) : EvR P ora ro ops (o :: os) e h Q := by
  obtain ⟨r, h1, h2, n, h3⟩ := hk
  refine ⟨r, h1, h2, n, fun m hm => ?_⟩
  have : stepOp P (callWith P ora (runCode P ora m)) ro o e h = .ok v h' := by
    rcases step_mono (P := P) (noCall_le (callWith P ora (runCode P ora m))) ro o e h with h4 | h4
    · rw [hs] at h4; cases h4
    · rw [← h4]; exact hs
  simp only [runOps, hw, this, hp]
  exact h3 m hm
theorem evr_not {e' : Env} (hw : wantedA ops e o = some false) (hp : putA e o.dst undef = some e') (hk : EvR P ora ro ops os e' h Q) : EvR P ora ro ops (o :: os) e h Q := by
  obtain ⟨r, h1, h2, n, h3⟩ := hk
  refine ⟨r, h1, h2, n, fun m hm => ?_⟩
  simp only [runOps, hw, hp]
  exact h3 m hm
theorem evr_panic {v : Value} {h' : Heap} (hw : wantedA ops e o = some true) (hs : stepOp P noCall ro o e h = .panic v h') (hq : Q (.panic v e h')) : EvR P ora ro ops (o :: os) e h Q := by
  refine ⟨.panic v e h', by simp, hq, 0, fun m hm => ?_⟩
  have : stepOp P (callWith P ora (runCode P ora m)) ro o e h = .panic v h' := by
    rcases step_mono (P := P) (noCall_le (callWith P ora (runCode P ora m))) ro o e h with h4 | h4
    · rw [hs] at h4; cases h4
    · rw [← h4]; exact hs
  simp only [runOps, hw, this]

/-- What follows a call. -/
def After (e : Env) (d : Option Tmp) (next : Env → Heap → Prop) (Q : COut → Prop) : Out → Prop
  | .ok v h => ∃ e', putA e d v = some e' ∧ next e' h
  | .panic v h => Q (.panic v e h)
  | .fail => False
theorem evr_call {dst : Option Tmp} {type : TypeId} {pos : String} {after : Array Edge} {guard : Option (Nat × Bool)} {x : Operand} {args : Array Operand} {argTypes : Array TypeId} {g : FuncId} {first cap : Array Value} {vs : List Value}
    (hw : wantedA ops e ⟨dst, .call { callee := .value x, args := args, argTypes := argTypes }, type, pos, after, guard⟩ = some true) (hf : ev P e x = some (.func (.func g) first cap)) (ha : evs P e args.toList = some vs) (hb : enterB P g = true)
    (hk : EvF P ora ro g (first.toList ++ vs ++ cap.toList) h (After e dst (fun e' h' => EvR P ora ro ops os e' h' Q) Q)) :
    EvR P ora ro ops (⟨dst, .call { callee := .value x, args := args, argTypes := argTypes }, type, pos, after, guard⟩ :: os) e h Q := by
  obtain ⟨r, h1, h2, n, h3⟩ := hk
  cases r with
  | fail => exact absurd rfl h1
  | panic v h' =>
    refine ⟨.panic v e h', by simp, h2, n, fun m hm => ?_⟩
    have : callWith P ora (runCode P ora m) ro g (first.toList ++ vs ++ cap.toList) h = .panic v h' := h3 m hm
    simp only [runOps, hw, stepOp, hf, ha, hb, if_true, this]
  | ok v h' =>
    obtain ⟨e', g1, r2, g2, g3, n2, g4⟩ := h2
    refine ⟨r2, g2, g3, max n n2, fun m hm => ?_⟩
    have : callWith P ora (runCode P ora m) ro g (first.toList ++ vs ++ cap.toList) h = .ok v h' := h3 m (by omega)
    simp only [runOps, hw, stepOp, hf, ha, hb, if_true, this, g1]
    exact g4 m (by omega)

/-! ### Calls -/
def Body (P : Program) (fn : Func) (Q : Out → Prop) : COut → Prop
  | .normal e h => resOf P fn e h ≠ .fail ∧ Q (resOf P fn e h)
  | .ret e h => resOf P fn e h ≠ .fail ∧ Q (resOf P fn e h)
  | .panic v _ h => Q (.panic v h)
  | _ => False
theorem evf_of {f : FuncId} {fn : Func} {c : Code} {args : List Value} {Q : Out → Prop} (ho : ora ro f args h = none) (hf : P.funcs[f]? = some fn) (hb : fn.body = some c)
    (hc : EvC P ora ro c (envOf0 args fn.ntmps) h (Body P fn Q)) : EvF P ora ro f args h Q := by
  obtain ⟨r, h1, h2, n, h3⟩ := hc
  cases r with
  | fail => exact absurd rfl h1
  | normal e' h' => exact ⟨_, h2.1, h2.2, n, fun m hm => by simp only [call, callWith, ho, hf, hb, h3 m hm]⟩
  | ret e' h' => exact ⟨_, h2.1, h2.2, n, fun m hm => by simp only [call, callWith, ho, hf, hb, h3 m hm]⟩
  | panic v e' h' => exact ⟨_, by simp, h2, n, fun m hm => by simp only [call, callWith, ho, hf, hb, h3 m hm]⟩
  | exit j e' h' => exact h2.elim
theorem evf_ora {f : FuncId} {args : List Value} {Q : Out → Prop} {r : Out} (ho : ora ro f args h = some r) (hr : r ≠ .fail) (hq : Q r) : EvF P ora ro f args h Q :=
  ⟨r, hr, hq, 0, fun m _ => by simp only [call, callWith, ho]⟩

theorem evf_ok {f : FuncId} {args : List Value} {Q : Out → Prop} (hc : EvF P ora ro f args h Q) : ∃ n, Q (call P ora n ro f args h) ∧ call P ora n ro f args h ≠ .fail :=
  let ⟨r, h1, h2, n, h3⟩ := hc
  ⟨n, by rw [h3 n (Nat.le_refl _)]; exact ⟨h2, h1⟩⟩

end Go.Abs

namespace Go.Abs
set_option linter.unusedSimpArgs false
set_option linter.unusedVariables false

/-! ### The interpreter once more, with what follows as an argument: so that the kernel can run it on arguments that are not known -/
def bindO (o : Out) (k : Value → Heap → Out) : Out :=
  match o with
  | .ok v h => k v h
  | .panic v h => .panic v h
  | .fail => .fail
/-- An operation's guard: what it says is known from there on. -/
def guardK (ops : Array Oper) (o : Oper) (e : Env) (k : Bool → Env → Out) : Out :=
  match o.guard with
  | none => k true e
  | some (j, want) => match ops[j]? with
    | some g => match g.dst with
      | some d => match e.get d with
        | some (.bool b) => match b with
          | true => k want (e.set d (.bool true))
          | false => k (!want) (e.set d (.bool false))
        | some _ => k false e
        | none => .fail
      | none => k false e
    | none => k false e
def ifK (b : Bool) (x y : Out) : Out := match b with | true => x | false => y
def putK (e : Env) (d : Option Tmp) (v : Value) (k : Env → Out) : Out :=
  match putA e d v with
  | some e' => k e'
  | none => .fail

/-! What an operation gives is asked for its type's shape. -/
def boolK (v : Value) (k : Bool → Out) : Out := match v with | .bool b => k b | _ => .fail
def intK (kd : IntKind) (v : Value) (k : Int → Out) : Out := match v with | .int kd' n => ifK (kd' == kd) (k n) .fail | _ => .fail
def strK (v : Value) (k : ByteArray → Out) : Out := match v with | .string s => k s | _ => .fail
def sliceK (v : Value) (k : Option Addr → Nat → Nat → Out) : Out := match v with | .slice a n c => k a n c | _ => .fail
def tupK (v : Value) (k : List Value → Out) : Out := match v with | .tuple cs => k cs.toList | _ => .fail
def aggK (v : Value) (k : List Value → Out) : Out := match v with | .agg cs => k cs.toList | _ => .fail
def consK (l : List Value) (k : Value → List Value → Out) : Out := match l with | v :: r => k v r | [] => .fail
def nilK (l : List Value) (k : Out) : Out := match l with | [] => k | _ :: _ => .fail
def cellsK (cast : TypeId → Value → (Value → Out) → Out) : List TypeId → List Value → (List Value → Out) → Out
  | [], vs, k => nilK vs (k [])
  | t :: ts, vs, k => consK vs fun v r => cast t v fun v' => cellsK cast ts r fun vs' => k (v' :: vs')
/-- The types of the cells of a struct; none: not a struct of such cells. -/
def leafTs (P : Program) : Nat → TypeId → Option (List TypeId)
  | 0, _ => none
  | n + 1, t => match P.underlying t with
    | some (.struct fs) => fs.toList.foldr (fun f r => match leafTs P n f.type, r with | some a, some b => some (a ++ b) | _, _ => none) (some [])
    | some (.array _ _) => none
    | some _ => some [t]
    | none => none
def typedK (P : Program) : Nat → TypeId → Value → (Value → Out) → Out
  | 0, _, v, k => k v
  | n + 1, t, v, k => match P.underlying t with
    | some .bool => boolK v fun b => k (.bool b)
    | some (.int kd) => intK kd v fun m => k (.int kd m)
    | some .string => strK v fun s => k (.string s)
    | some (.slice _) => sliceK v fun a m c => k (.slice a m c)
    | some (.tuple ts) => tupK v fun l => cellsK (typedK P n) ts.toList l fun l' => k (.tuple l'.toArray)
    | some (.struct _) => match leafTs P 4 t with
      | some ts => aggK v fun l => cellsK (typedK P n) ts l fun l' => k (.agg l'.toArray)
      | none => k v
    | _ => k v
def castB : Op → Bool
  | .load .. | .lookup .. | .call _ | .field .. | .index .. | .extract .. | .typeAssert .. | .convert .. | .slice .. | .makeSlice .. => true
  | .binOp op .. => match op with
    | .add | .sub | .mul | .quo | .rem | .shl | .shr => true
    | _ => false
  | _ => false
def castK (P : Program) (o : Oper) (v : Value) (k : Value → Out) : Out := match castB o.op with | true => typedK P 3 o.type v k | false => k v
/-- A step, and what follows; a choice is made where it stands. -/
def stepK (P : Program) (call : Nat → FuncId → List Value → Heap → Out) (ro : Nat) (o : Oper) (e : Env) (h : Heap) (bind : Out → (Value → Heap → Out) → Out) (k : Value → Heap → Out) : Out :=
  match o.op with
  | .pick c x y => match ev P e c with
    | some (.bool b) => match b with
      | true => bind (opt h (ev P e x)) k
      | false => bind (opt h (ev P e y)) k
    | _ => .fail
  | _ => bind (stepOp P call ro o e h) fun v h' => castK P o v fun v' => k v' h'

def opsK (P : Program) (call : Nat → FuncId → List Value → Heap → Out) (ops : Array Oper) (ro : Nat) : List Oper → Env → Heap → (Env → Heap → Out) → Out
  | [], e, h, k => k e h
  | o :: os, e, h, k => guardK ops o e fun b e => ifK b (stepK P call ro o e h bindO fun v h' => putK e o.dst v fun e' => opsK P call ops ro os e' h' k) (putK e o.dst undef fun e' => opsK P call ops ro os e' h k)

/-- No panic in the open part. -/
def bindN (o : Out) (k : Value → Heap → Out) : Out :=
  match o with
  | .ok v h => k v h
  | _ => .fail
def preK (P : Program) (call : Nat → FuncId → List Value → Heap → Out) (ops : Array Oper) (ms : List Nat) (pre : List Oper) (ro : Nat) : List Oper → Nat → Env → Heap → (Env → Heap → Out) → Out
  | [], _, e, h, k => k e h
  | o :: os, i, e, h, k => guardK ops o e fun b e => ifK b (stepK P call (if quietB P ms pre o i then h.next else ro) o e h bindN fun v h' => putK e o.dst v fun e' => preK P call ops ms pre ro os (i + 1) e' h' k)
      (putK e o.dst undef fun e' => preK P call ops ms pre ro os (i + 1) e' h k)
def regionK (P : Program) (call : Nat → FuncId → List Value → Heap → Out) (ro : Nat) (ops : Array Oper) (draw : Bool) (e : Env) (h : Heap) (k : Env → Heap → Out) : Out :=
  ifK draw
    (ifK (edgesOk ops && preOk P ops (masks ops.toList []) (ops.toList.take (tailFrom (masks ops.toList []) 0 0)))
      (preK P call ops (masks ops.toList []) (ops.toList.take (tailFrom (masks ops.toList []) 0 0)) ro (ops.toList.take (tailFrom (masks ops.toList []) 0 0)) 0 e h fun e' h' =>
        ifK (apartOk P (masks ops.toList []) (ops.toList.take (tailFrom (masks ops.toList []) 0 0)) e') (opsK P call ops ro (ops.toList.drop (tailFrom (masks ops.toList []) 0 0)) e' h' k) .fail) .fail)
    (opsK P call ops ro ops.toList e h k)

def loopK (body : Env → Heap → (COut → Out) → Out) : Nat → Env → Heap → (COut → Out) → Out
  | 0, _, _, _ => .fail
  | n + 1, e, h, k => body e h fun
    | .normal e' h' => loopK body n e' h' k
    | r => k r

def condK (v : Option Value) (x y : Out) : Out :=
  match v with
  | some (.bool b) => ifK b x y
  | _ => .fail

def execK (P : Program) (call : Nat → FuncId → List Value → Heap → Out) (lf ro : Nat) : Code → Env → Heap → (COut → Out) → Out
  | .skip, e, h, k => k (.normal e h)
  | .region _ ops draw, e, h, k => regionK P call ro ops draw e h fun e' h' => k (.normal e' h')
  | .seq a b, e, h, k => execK P call lf ro a e h fun
    | .normal e' h' => execK P call lf ro b e' h' k
    | r => k r
  | .cond c a b, e, h, k => condK (ev P e c) (execK P call lf ro a e h k) (execK P call lf ro b e h k)
  | .block id b, e, h, k => execK P call lf ro b e h fun
    | .exit j e' h' => ifK (j == id) (k (.normal e' h')) (k (.exit j e' h'))
    | r => k r
  | .loop b, e, h, k => loopK (execK P call lf ro b) lf e h k
  | .exit id, e, h, k => k (.exit id e h)
  | .ret, e, h, k => k (.ret e h)
  | .label _, e, h, k => k (.normal e h)
  | .scope b, e, h, k => execK P call lf ro b e h k
  | _, _, _, _ => .fail

def endK (P : Program) (fn : Func) : COut → Out
  | .normal e h => resOf P fn e h
  | .ret e h => resOf P fn e h
  | _ => .fail
def bodyK (P : Program) (call : Nat → FuncId → List Value → Heap → Out) (lf ro : Nat) (fn : Func) (args : List Value) (h : Heap) : Out :=
  match fn.body with
  | none => .fail
  | some c => execK P call lf ro c (envOf0 args fn.ntmps) h (endK P fn)
def callBy (P : Program) (ora : Ora) (call : Nat → FuncId → List Value → Heap → Out) (lf ro : Nat) (f : FuncId) (args : List Value) (h : Heap) : Out :=
  match ora ro f args h with
  | some r => r
  | none => match P.funcs[f]? with
    | none => .fail
    | some fn => bodyK P call lf ro fn args h
def callN (P : Program) (ora : Ora) : Nat → Nat → FuncId → List Value → Heap → Out
  | 0, _, _, _, _ => .fail
  | n + 1, ro, f, args, h => callBy P ora (callN P ora n) n ro f args h

/-! ### It says what the other one says -/
section
variable {P : Program} {ora : Ora} {call : Nat → FuncId → List Value → Heap → Out}

def Good1 (P : Program) (ora : Ora) (call : Nat → FuncId → List Value → Heap → Out) : Prop := ∀ ro f args h, call ro f args h ≠ .fail → EvF P ora ro f args h (· = call ro f args h)

theorem T.set_same {α : Type} : ∀ (k : Nat) (t : T α) (n : Nat) (x : α), n < k → t.get n = some x → T.setIn k t n x = t := by
  intro k
  induction k with
  | zero => intro t n x h; omega
  | succ k ih =>
    intro t n x h hg
    cases t with
    | leaf => simp [T.get] at hg
    | node l v r =>
      cases n with
      | zero => simp [T.get] at hg; subst hg; rfl
      | succ n =>
        by_cases hn : n % 2 = 0
        · rw [T.get_even _ _ _ _ hn] at hg
          have := ih l (n / 2) x (by omega) hg
          simp [T.setIn, hn, T.left, T.right, T.here, this]
        · rw [T.get_odd _ _ _ _ hn] at hg
          have := ih r (n / 2) x (by omega) hg
          have h1 : n % 2 = 1 := by omega
          simp [T.setIn, h1, T.left, T.right, T.here, this]
theorem Env.set_same {e : Env} {n : Nat} {x : Value} (hg : e.get n = some x) : e.set n x = e := by
  rw [Env.set_eq]; unfold T.set
  rw [T.set_same (n + 1) e.tab n x (Nat.lt_succ_self n) hg]

theorem guardK_ok {ops : Array Oper} {o : Oper} {e : Env} {k : Bool → Env → Out} (hn : guardK ops o e k ≠ .fail) : ∃ b, wantedA ops e o = some b ∧ guardK ops o e k = k b e := by
  unfold guardK at hn ⊢
  unfold wantedA
  cases hg : o.guard with
  | none => exact ⟨true, rfl, rfl⟩
  | some gw =>
    obtain ⟨j, want⟩ := gw
    simp only [hg] at hn ⊢
    cases hj : ops[j]? with
    | none => exact ⟨false, rfl, rfl⟩
    | some g =>
      simp only [hj] at hn ⊢
      cases hd : g.dst with
      | none => exact ⟨false, rfl, rfl⟩
      | some d =>
        simp only [hd] at hn ⊢
        cases hv : e.get d with
        | none => rw [hv] at hn; exact absurd rfl hn
        | some v =>
          rw [hv] at hn
          cases v with
          | bool b =>
            cases b with
            | true => exact ⟨want, by cases want <;> rfl, by simp only [Env.set_same hv]⟩
            | false => exact ⟨!want, by cases want <;> rfl, by simp only [Env.set_same hv]⟩
          | _ => exact ⟨false, rfl, rfl⟩

theorem boolK_ok {v : Value} {k : Value → Out} (hn : (boolK v fun b => k (.bool b)) ≠ .fail) : (boolK v fun b => k (.bool b)) = k v := by cases v <;> first | rfl | exact absurd rfl hn
theorem intK_ok {v : Value} {kd : IntKind} {k : Value → Out} (hn : (intK kd v fun b => k (.int kd b)) ≠ .fail) : (intK kd v fun b => k (.int kd b)) = k v := by
  cases v <;> first | exact absurd rfl hn | skip
  rename_i kd' n
  simp only [intK] at hn ⊢
  cases hk : (kd' == kd) with
  | false => rw [hk] at hn; exact absurd rfl hn
  | true => have : kd' = kd := by simpa using hk
            subst this; rfl
theorem strK_ok {v : Value} {k : Value → Out} (hn : (strK v fun b => k (.string b)) ≠ .fail) : (strK v fun b => k (.string b)) = k v := by cases v <;> first | rfl | exact absurd rfl hn
theorem sliceK_ok {v : Value} {k : Value → Out} (hn : (sliceK v fun a n c => k (.slice a n c)) ≠ .fail) : (sliceK v fun a n c => k (.slice a n c)) = k v := by cases v <;> first | rfl | exact absurd rfl hn

theorem cellsK_ok {cast : TypeId → Value → (Value → Out) → Out} (hc : ∀ t v k, cast t v k ≠ .fail → cast t v k = k v) : ∀ {ts : List TypeId} {l : List Value} {k : List Value → Out}, cellsK cast ts l k ≠ .fail → cellsK cast ts l k = k l
  | [], l, k, hn => by
    cases l with
    | nil => rfl
    | cons v r => exact absurd rfl hn
  | t :: ts, l, k, hn => by
    cases l with
    | nil => exact absurd rfl hn
    | cons v r =>
      simp only [cellsK, consK] at hn ⊢
      have h1 := hc t v _ hn
      rw [h1] at hn ⊢
      exact cellsK_ok hc (k := fun vs' => k (v :: vs')) hn
theorem typedK_ok : ∀ (n : Nat) (t : TypeId) (v : Value) (k : Value → Out), typedK P n t v k ≠ .fail → typedK P n t v k = k v
  | 0, _, _, _, _ => rfl
  | n + 1, t, v, k, hn => by
    have ih := typedK_ok n
    simp only [typedK] at hn ⊢
    split at hn
    · exact boolK_ok hn
    · exact intK_ok hn
    · exact strK_ok hn
    · exact sliceK_ok hn
    · cases v <;> first | exact absurd rfl hn | skip
      rename_i cs
      simp only [tupK] at hn ⊢
      rw [cellsK_ok ih (k := fun l' => k (.tuple l'.toArray)) hn]
    · split at hn
      · cases v <;> first | exact absurd rfl hn | skip
        rename_i cs
        simp only [aggK] at hn ⊢
        rw [cellsK_ok ih (k := fun l' => k (.agg l'.toArray)) hn]
      · rfl
    · rfl
theorem castK_ok {o : Oper} {v : Value} {k : Value → Out} (hn : castK P o v k ≠ .fail) : castK P o v k = k v := by
  unfold castK at hn ⊢
  split at hn
  · exact typedK_ok _ _ _ _ hn
  · rfl
theorem stepK_ok {ro : Nat} {o : Oper} {e : Env} {h : Heap} {bind : Out → (Value → Heap → Out) → Out} {k : Value → Heap → Out} (hb1 : ∀ v h k, bind (.ok v h) k = k v h) (hb2 : ∀ k, bind .fail k = .fail)
    (hb3 : ∀ v h k k', bind (.panic v h) k = bind (.panic v h) k') (hn : stepK P call ro o e h bind k ≠ .fail) : stepK P call ro o e h bind k = bind (stepOp P call ro o e h) k := by
  obtain ⟨dst, op, type, pos, after, guard⟩ := o
  have other : bind (stepOp P call ro ⟨dst, op, type, pos, after, guard⟩ e h) (fun v h' => castK P ⟨dst, op, type, pos, after, guard⟩ v fun v' => k v' h') ≠ .fail →
      bind (stepOp P call ro ⟨dst, op, type, pos, after, guard⟩ e h) (fun v h' => castK P ⟨dst, op, type, pos, after, guard⟩ v fun v' => k v' h') = bind (stepOp P call ro ⟨dst, op, type, pos, after, guard⟩ e h) k := by
    intro hn
    cases hs : stepOp P call ro ⟨dst, op, type, pos, after, guard⟩ e h with
    | ok v h' => rw [hs, hb1] at hn; rw [hb1, hb1]; exact castK_ok (k := fun v' => k v' h') hn
    | panic v h' => exact hb3 _ _ _ _
    | fail => rw [hb2, hb2]
  cases op
  case pick c x y =>
    simp only [stepK, stepOp] at hn ⊢
    cases hv : ev P e c with
    | none => rw [hv] at hn; exact absurd rfl hn
    | some v =>
      rw [hv] at hn
      cases v <;> first | exact absurd rfl hn | skip
      rename_i b
      cases b <;> rfl
  all_goals exact other hn
theorem bindO_rules : (∀ v h k, bindO (.ok v h) k = k v h) ∧ (∀ k, bindO .fail k = .fail) ∧ ∀ v h k k', bindO (.panic v h) k = bindO (.panic v h) k' := ⟨fun _ _ _ => rfl, fun _ => rfl, fun _ _ _ _ => rfl⟩
theorem bindN_rules : (∀ v h k, bindN (.ok v h) k = k v h) ∧ (∀ k, bindN .fail k = .fail) ∧ ∀ v h k k', bindN (.panic v h) k = bindN (.panic v h) k' := ⟨fun _ _ _ => rfl, fun _ => rfl, fun _ _ _ _ => rfl⟩

/-- What follows, a panic too. -/
def kOf (k : Env → Heap → Out) : COut → Out
  | .normal e h => k e h
  | .panic v _ h => .panic v h
  | _ => .fail
def kAll (k : COut → Out) : COut → Out
  | .panic v _ h => .panic v h
  | .fail => .fail
  | r => k r

/-- A step with calls: some fuel does it. -/
theorem step_some (hc : Good1 P ora call) (ro : Nat) (o : Oper) (e : Env) (h : Heap) (hn : stepOp P call ro o e h ≠ .fail) :
    ∃ n, ∀ m, n ≤ m → stepOp P (callWith P ora (runCode P ora m)) ro o e h = stepOp P call ro o e h := by
  obtain ⟨dst, op, type, pos, after, guard⟩ := o
  cases op
  case call k =>
    simp only [stepOp] at hn ⊢
    split at hn
    · rename_i args ha
      split at hn
      · rename_i f hf
        split at hn
        · rename_i g first cap hg
          split at hn
          · rename_i hb
            obtain ⟨r, h1, h2, n, h3⟩ := hc _ _ _ _ hn
            refine ⟨n, fun m hm => ?_⟩
            simp only [hf, hg, hb, if_true]
            rw [← h2]; exact h3 m hm
          · exact absurd rfl hn
        · exact absurd rfl hn
      · rename_i b hb; exact ⟨0, fun m _ => by simp only [hb]⟩
      · exact absurd rfl hn
    · exact absurd rfl hn
  case makeFunc f a b => cases f <;> exact ⟨0, fun _ _ => rfl⟩
  case makeMap t r => cases r <;> exact ⟨0, fun _ _ => rfl⟩
  all_goals exact ⟨0, fun _ _ => rfl⟩

theorem opsK_ok (hc : Good1 P ora call) {ops : Array Oper} {ro : Nat} : ∀ (os : List Oper) (e : Env) (h : Heap) (k : Env → Heap → Out), opsK P call ops ro os e h k ≠ .fail →
    ∃ r n, r ≠ .fail ∧ kOf k r = opsK P call ops ro os e h k ∧ ∀ m, n ≤ m → runOps P (callWith P ora (runCode P ora m)) ops ro os e h = r
  | [], e, h, k, _ => ⟨.normal e h, 0, by simp, rfl, fun _ _ => rfl⟩
  | o :: os, e, h, k, hn => by
    simp only [opsK] at hn ⊢
    obtain ⟨b, hw, hge⟩ := guardK_ok hn
    rw [hge] at hn ⊢
    · cases b with
      | true =>
        simp only [ifK] at hn ⊢
        have hst := stepK_ok bindO_rules.1 bindO_rules.2.1 bindO_rules.2.2 hn
        rw [hst] at hn ⊢
        cases hs : stepOp P call ro o e h with
        | fail => rw [hs] at hn; exact absurd rfl hn
        | panic v h' =>
          obtain ⟨n, h3⟩ := step_some hc ro o e h (by rw [hs]; simp)
          exact ⟨.panic v e h', n, by simp, rfl, fun m hm => by simp only [runOps, hw, h3 m hm, hs]⟩
        | ok v h' =>
          rw [hs] at hn
          simp only [bindO, putK] at hn ⊢
          cases hp : putA e o.dst v with
          | none => rw [hp] at hn; exact absurd rfl hn
          | some e' =>
            rw [hp] at hn
            simp only at hn ⊢
            obtain ⟨n, h3⟩ := step_some hc ro o e h (by rw [hs]; simp)
            obtain ⟨r, n2, g1, g2, g3⟩ := opsK_ok hc os e' h' k hn
            exact ⟨r, max n n2, g1, g2, fun m hm => by simp only [runOps, hw, h3 m (by omega), hs, hp]; exact g3 m (by omega)⟩
      | false =>
        simp only [ifK, putK] at hn ⊢
        cases hp : putA e o.dst undef with
        | none => rw [hp] at hn; exact absurd rfl hn
        | some e' =>
          rw [hp] at hn
          simp only at hn ⊢
          obtain ⟨r, n2, g1, g2, g3⟩ := opsK_ok hc os e' h k hn
          exact ⟨r, n2, g1, g2, fun m hm => by simp only [runOps, hw, hp]; exact g3 m hm⟩

theorem preK_ok (hc : Good1 P ora call) {ops : Array Oper} {ms : List Nat} {pre : List Oper} {ro : Nat} : ∀ (os : List Oper) (i : Nat) (e : Env) (h : Heap) (k : Env → Heap → Out), preK P call ops ms pre ro os i e h k ≠ .fail →
    ∃ e' h' n, k e' h' = preK P call ops ms pre ro os i e h k ∧ ∀ m, n ≤ m → runPre P (callWith P ora (runCode P ora m)) ops ms pre ro os i e h = .normal e' h'
  | [], i, e, h, k, _ => ⟨e, h, 0, rfl, fun _ _ => rfl⟩
  | o :: os, i, e, h, k, hn => by
    simp only [preK] at hn ⊢
    obtain ⟨b, hw, hge⟩ := guardK_ok hn
    rw [hge] at hn ⊢
    · cases b with
      | true =>
        simp only [ifK] at hn ⊢
        have hst := stepK_ok bindN_rules.1 bindN_rules.2.1 bindN_rules.2.2 hn
        rw [hst] at hn ⊢
        cases hs : stepOp P call (if quietB P ms pre o i then h.next else ro) o e h with
        | fail => rw [hs] at hn; exact absurd rfl hn
        | panic v h' => rw [hs] at hn; exact absurd rfl hn
        | ok v h' =>
          rw [hs] at hn
          simp only [bindN, putK] at hn ⊢
          cases hp : putA e o.dst v with
          | none => rw [hp] at hn; exact absurd rfl hn
          | some e' =>
            rw [hp] at hn
            simp only at hn ⊢
            obtain ⟨n, h3⟩ := step_some hc _ o e h (by rw [hs]; simp)
            obtain ⟨e2, h2, n2, g2, g3⟩ := preK_ok hc os (i + 1) e' h' k hn
            exact ⟨e2, h2, max n n2, g2, fun m hm => by simp only [runPre, hw, h3 m (by omega), hs, hp]; exact g3 m (by omega)⟩
      | false =>
        simp only [ifK, putK] at hn ⊢
        cases hp : putA e o.dst undef with
        | none => rw [hp] at hn; exact absurd rfl hn
        | some e' =>
          rw [hp] at hn
          simp only at hn ⊢
          obtain ⟨e2, h2, n2, g2, g3⟩ := preK_ok hc os (i + 1) e' h k hn
          exact ⟨e2, h2, n2, g2, fun m hm => by simp only [runPre, hw, hp]; exact g3 m hm⟩

theorem regionK_ok (hc : Good1 P ora call) {ops : Array Oper} {ro : Nat} {draw : Bool} {e : Env} {h : Heap} {k : Env → Heap → Out} (hn : regionK P call ro ops draw e h k ≠ .fail) :
    ∃ r n, r ≠ .fail ∧ kOf k r = regionK P call ro ops draw e h k ∧ ∀ m, n ≤ m → runRegion P (callWith P ora (runCode P ora m)) ro ops draw e h = r := by
  cases draw with
  | false =>
    obtain ⟨r, n, h1, h2, h3⟩ := opsK_ok hc ops.toList e h k hn
    exact ⟨r, n, h1, h2, fun m hm => by simp only [runRegion, Bool.false_eq_true, if_false]; exact h3 m hm⟩
  | true =>
    have hn' := hn
    simp only [regionK] at hn ⊢
    cases hp : (edgesOk ops && preOk P ops (masks ops.toList []) (ops.toList.take (tailFrom (masks ops.toList []) 0 0))) with
    | false => rw [hp] at hn; exact absurd rfl hn
    | true =>
      rw [hp] at hn
      simp only [ifK] at hn ⊢
      obtain ⟨e', h', n, g1, g2⟩ := preK_ok hc _ 0 e h _ hn
      rw [← g1] at hn ⊢
      cases ha : apartOk P (masks ops.toList []) (ops.toList.take (tailFrom (masks ops.toList []) 0 0)) e' with
      | false => rw [ha] at hn; exact absurd rfl hn
      | true =>
        rw [ha] at hn
        simp only at hn ⊢
        obtain ⟨r, n2, q1, q2, q3⟩ := opsK_ok hc _ e' h' k hn
        exact ⟨r, max n n2, q1, q2, fun m hm => by simp only [runRegion, if_true, hp, g2 m (by omega), ha]; exact q3 m (by omega)⟩

theorem execK_ok (hc : Good1 P ora call) (lf : Nat) {ro : Nat} : ∀ (c : Code) (e : Env) (h : Heap) (k : COut → Out), execK P call lf ro c e h k ≠ .fail → EvC P ora ro c e h (fun r => kAll k r = execK P call lf ro c e h k) := by
  intro c
  induction c with
  | skip => intro e h k _; exact ev_skip rfl
  | region id ops draw =>
    intro e h k hn
    simp only [execK] at hn ⊢
    obtain ⟨r, n, h1, h2, h3⟩ := regionK_ok hc hn
    refine ⟨r, h1, ?_, n + 1, fun m hm => ?_⟩
    · rw [← h2]
      cases r <;> simp only [kAll, kOf]
      · rw [← h2] at hn; exact absurd rfl hn
      · rw [← h2] at hn; exact absurd rfl hn
    · obtain ⟨j, rfl⟩ : ∃ j, m = j + 1 := ⟨m - 1, by omega⟩
      rw [runCode_succ]; simp only [codeBy]; exact h3 j (by omega)
  | seq a b iha ihb =>
    intro e h k hn
    simp only [execK] at hn ⊢
    refine ev_seq ((iha e h _ hn).mono fun r hr => ?_)
    rw [← hr] at hn ⊢
    cases r with
    | normal e' h' => exact ihb e' h' k hn
    | _ => rfl
  | cond c a b iha ihb =>
    intro e h k hn
    simp only [execK] at hn ⊢
    cases hv : ev P e c with
    | none => rw [hv] at hn; exact absurd rfl hn
    | some v =>
      rw [hv] at hn
      cases v <;> try (exact absurd rfl hn)
      rename_i t
      simp only [condK] at hn ⊢
      refine ev_cond hv (fun ht => ?_) (fun ht => ?_)
      · subst ht; exact iha e h k hn
      · subst ht; exact ihb e h k hn
  | block id b ih =>
    intro e h k hn
    simp only [execK] at hn ⊢
    refine ev_block ((ih e h _ hn).mono fun r hr => ?_)
    rw [← hr] at hn ⊢
    cases r with
    | exit j e' h' =>
      simp only [InBlock, kAll]
      by_cases hj : j = id
      · rw [if_pos hj]; subst hj; simp only [beq_self_eq_true, ifK]
      · rw [if_neg hj]
        have : (j == id) = false := by simpa using hj
        simp only [this, ifK]
    | _ => rfl
  | loop b ih =>
    intro e h k hn
    simp only [execK] at hn ⊢
    have key : ∀ (n : Nat) (e : Env) (h : Heap), loopK (execK P call lf ro b) n e h k ≠ .fail → EvC P ora ro (.loop b) e h (fun r => kAll k r = loopK (execK P call lf ro b) n e h k) := by
      intro n
      induction n with
      | zero => intro e h hn; exact absurd rfl hn
      | succ n ihn =>
        intro e h hn
        simp only [loopK] at hn ⊢
        refine ev_loop ((ih e h _ hn).mono fun r hr => ?_)
        rw [← hr] at hn ⊢
        cases r with
        | normal e' h' => exact ihn e' h' hn
        | _ => rfl
    exact key lf e h hn
  | exit id => intro e h k _; exact ev_exit rfl
  | ret => intro e h k _; exact ev_ret rfl
  | label l => intro e h k _; exact ev_label rfl
  | scope b ih => intro e h k hn; simp only [execK] at hn ⊢; exact ev_scope (ih e h k hn)
  | _ => intros; rename_i hn; exact absurd rfl hn

theorem callBy_ok (hc : Good1 P ora call) (lf : Nat) : Good1 P ora (callBy P ora call lf) := by
  intro ro f args h hn
  unfold callBy at hn ⊢
  split at hn
  · rename_i r ho
    exact evf_ora ho hn rfl
  · rename_i ho
    split at hn
    · exact absurd rfl hn
    · rename_i fn hf
      unfold bodyK at hn ⊢
      split at hn
      · exact absurd rfl hn
      · rename_i c hb
        refine evf_of ho hf hb ((execK_ok hc lf c _ h _ hn).mono fun r hr => ?_)
        rw [← hr] at hn
        cases r <;> simp only [kAll, endK] at hr hn <;> simp only [Body]
        · exact ⟨hn, hr⟩
        · exact absurd rfl hn
        · exact ⟨hn, hr⟩
        · exact hr
        · exact absurd rfl hn
theorem callN_ok : ∀ (n : Nat), Good1 P ora (callN P ora n)
  | 0 => fun _ _ _ _ hn => absurd rfl hn
  | n + 1 => callBy_ok (callN_ok n) n
end

end Go.Abs

namespace Go.Abs

/-! ### What the decompiled texts speak of -/
def E3 (x y z : Value) : Env := ⟨3, .node (.node .leaf (some y) .leaf) (some x) (.node .leaf (some z) .leaf)⟩
def opO (P : Program) (ro : Nat) (op : Op) (x y z : Value) (h : Heap) : Out := stepOp P noCall ro ⟨none, op, 0, "", #[], none⟩ (E3 x y z) h
def loadO (P : Program) (t : TypeId) (x : Value) (h : Heap) : Out := opO P 0 (.load t (.tmp 0)) x undef undef h
def storeO (P : Program) (ro : Nat) (t : TypeId) (x y : Value) (h : Heap) : Out := opO P ro (.store t (.tmp 0) (.tmp 1)) x y undef h
def idxO (P : Program) (t : TypeId) (x i : Value) (h : Heap) : Out := opO P 0 (.indexAddr t (.tmp 0) (.tmp 1)) x i undef h
def indexO (P : Program) (t : TypeId) (x i : Value) (h : Heap) : Out := opO P 0 (.index t (.tmp 0) (.tmp 1)) x i undef h
def faddrO (P : Program) (t : TypeId) (x : Value) (i : Nat) (h : Heap) : Out := opO P 0 (.fieldAddr t (.tmp 0) i) x undef undef h
def fieldO (P : Program) (t : TypeId) (x : Value) (i : Nat) (h : Heap) : Out := opO P 0 (.field t (.tmp 0) i) x undef undef h
def nilO (P : Program) (x : Value) (h : Heap) : Out := opO P 0 (.nilCheck (.tmp 0)) x undef undef h
def msliceO (P : Program) (t : TypeId) (n c : Value) (h : Heap) : Out := opO P 0 (.makeSlice t (.tmp 0) (.tmp 1)) n c undef h
def extractO (P : Program) (x : Value) (i : Nat) (h : Heap) : Out := opO P 0 (.extract (.tmp 0) i) x undef undef h
def panicO (P : Program) (x : Value) (h : Heap) : Out := opO P 0 (.panic (.tmp 0)) x undef undef h
def binO (P : Program) (op : BinOp) (t : TypeId) (c : Bool) (x y : Value) (h : Heap) : Out := opt h (binop P op t c x y)
def sliceO (P : Program) (t : TypeId) (x : Value) (lo hi : Option Value) (h : Heap) : Out := opt h (sliceOp P h t x lo hi)
def appO (P : Program) (ro : Nat) (st xt : TypeId) (s x : Value) (h : Heap) : Out := builtinOp P ro .append [st, xt] [s, x] h

/-- An environment with something in every place. -/
def EN (nt : Nat) (l : List (Option Value)) : Env := ⟨nt, T.of (Nat.log2 nt + 1) fun i => l.getD i none⟩

/-! What follows a piece of code. -/
def seqK (P : Program) (call : Nat → FuncId → List Value → Heap → Out) (lf ro : Nat) (b : Code) (k : COut → Out) : COut → Out
  | .normal e h => execK P call lf ro b e h k
  | r => k r
def blockK (id : Nat) (k : COut → Out) : COut → Out
  | .exit j e h => ifK (j == id) (k (.normal e h)) (k (.exit j e h))
  | r => k r
def nextK (body : Env → Heap → (COut → Out) → Out) (n : Nat) (k : COut → Out) : COut → Out
  | .normal e h => loopK body n e h k
  | r => k r
/-- A piece of a code. -/
def sub : Code → List Bool → Code
  | c, [] => c
  | .seq a _, false :: p => sub a p
  | .seq _ b, true :: p => sub b p
  | .cond _ a _, false :: p => sub a p
  | .cond _ _ b, true :: p => sub b p
  | .block _ b, _ :: p => sub b p
  | .loop b, _ :: p => sub b p
  | .scope b, _ :: p => sub b p
  | c, _ => c
def codeOf (fn : Func) : Code := match fn.body with | some c => c | none => .skip

theorem loopK_succ (body : Env → Heap → (COut → Out) → Out) (n : Nat) (e : Env) (h : Heap) (k : COut → Out) : loopK body (n + 1) e h k = body e h (nextK body n k) := by
  simp only [loopK]
  congr 1
theorem nextK_normal (body : Env → Heap → (COut → Out) → Out) (n : Nat) (k : COut → Out) (e : Env) (h : Heap) : nextK body n k (.normal e h) = loopK body n e h k := rfl
theorem nextK_exit (body : Env → Heap → (COut → Out) → Out) (n : Nat) (k : COut → Out) (i : Nat) (e : Env) (h : Heap) : nextK body n k (.exit i e h) = k (.exit i e h) := rfl
theorem nextK_ret (body : Env → Heap → (COut → Out) → Out) (n : Nat) (k : COut → Out) (e : Env) (h : Heap) : nextK body n k (.ret e h) = k (.ret e h) := rfl
end Go.Abs

namespace Go.Abs
set_option linter.unusedSimpArgs false
set_option linter.unusedVariables false

/-! ### Environments of full shape -/
def updF (f : Nat → Option Value) (t : Nat) (v : Option Value) : Nat → Option Value := fun i => match i == t with | true => v | false => f i
def EF (nt : Nat) (f : Nat → Option Value) : Env := ⟨nt, T.of (Nat.log2 nt + 1) f⟩
def Shaped (nt : Nat) (e : Env) : Prop := ∃ f, e = EF nt f

theorem of_congr {α : Type} : ∀ (d : Nat) {f g : Nat → Option α}, (∀ i, f i = g i) → (T.of d f) = T.of d g := fun d f g h => by
  have : f = g := funext h
  rw [this]
theorem of_full {α : Type} : ∀ (d : Nat), (T.of d fun _ => none : T α) = T.full d
  | 0 => rfl
  | d + 1 => by simp only [T.of, T.full, of_full d]
theorem of_setIn {α : Type} : ∀ (d k : Nat) (f : Nat → Option α) (t : Nat) (v : α), t < k → t + 1 < 2 ^ d → T.setIn k (T.of d f) t v = T.of d (fun i => if i = t then some v else f i)
  | 0, k, f, t, v, _, h => by simp at h
  | d + 1, 0, f, t, v, h, _ => by omega
  | d + 1, k + 1, f, t, v, hk, h => by
    cases t with
    | zero =>
      simp only [T.setIn, T.of, T.left, T.right]
      congr 1
    | succ t =>
      have hp : 2 ^ (d + 1) = 2 * 2 ^ d := by rw [Nat.pow_succ]; omega
      by_cases ht : t % 2 = 0
      · have e1 : T.setIn (k + 1) (T.of (d + 1) f) (t + 1) v = .node (T.setIn k (T.of d fun i => f (2 * i + 1)) (t / 2) v) (f 0) (T.of d fun i => f (2 * i + 2)) := by
          simp [T.setIn, T.of, ht, T.left, T.right, T.here]
        rw [e1, of_setIn d k _ _ v (by omega) (by omega)]
        simp only [T.of]
        congr 1
        · exact of_congr d fun i => by
            by_cases hi : i = t / 2
            · rw [if_pos hi, if_pos (by omega)]
            · rw [if_neg hi, if_neg (by omega)]
        · exact of_congr d fun i => by rw [if_neg (by omega)]
      · have h1 : t % 2 = 1 := by omega
        have e1 : T.setIn (k + 1) (T.of (d + 1) f) (t + 1) v = .node (T.of d fun i => f (2 * i + 1)) (f 0) (T.setIn k (T.of d fun i => f (2 * i + 2)) (t / 2) v) := by
          simp [T.setIn, T.of, h1, T.left, T.right, T.here]
        rw [e1, of_setIn d k _ _ v (by omega) (by omega)]
        simp only [T.of]
        congr 1
        · exact of_congr d fun i => by rw [if_neg (by omega)]
        · exact of_congr d fun i => by
            by_cases hi : i = t / 2
            · rw [if_pos hi, if_pos (by omega)]
            · rw [if_neg hi, if_neg (by omega)]
theorem of_get {α : Type} : ∀ (d : Nat) (f : Nat → Option α) (t : Nat), t + 1 < 2 ^ d → (T.of d f).get t = f t
  | 0, f, t, h => by simp at h
  | d + 1, f, 0, h => rfl
  | d + 1, f, t + 1, h => by
    have hp : 2 ^ (d + 1) = 2 * 2 ^ d := by rw [Nat.pow_succ]; omega
    simp only [T.of]
    by_cases ht : t % 2 = 0
    · rw [T.get_even _ _ _ _ ht, of_get d _ _ (by omega)]; congr 1; omega
    · rw [T.get_odd _ _ _ _ ht, of_get d _ _ (by omega)]; congr 1; omega

theorem fits {nt t : Nat} (h : t < nt) : t + 1 < 2 ^ (Nat.log2 nt + 1) := by
  have : nt < 2 ^ (Nat.log2 nt + 1) := Nat.lt_log2_self
  omega
theorem EF_set {nt t : Nat} {f : Nat → Option Value} {v : Value} (h : t < nt) : (EF nt f).set t v = EF nt (updF f t (some v)) := by
  rw [Env.set_eq]; unfold EF T.set
  rw [of_setIn _ _ _ _ _ (Nat.lt_succ_self t) (fits h)]
  congr 1
  exact of_congr _ fun i => by
    unfold updF
    by_cases hi : i = t
    · subst hi; simp
    · have : (i == t) = false := by simpa using hi
      rw [if_neg hi, this]
theorem EF_get {nt t : Nat} {f : Nat → Option Value} (h : t < nt) : (EF nt f).get t = f t := of_get _ _ _ (fits h)
theorem Shaped.put {nt : Nat} {e e' : Env} {d : Option Tmp} {v : Value} (hs : Shaped nt e) (hp : putA e d v = some e') : Shaped nt e' := by
  cases d with
  | none => simp only [putA] at hp; cases hp; exact hs
  | some t =>
    obtain ⟨f, rfl⟩ := hs
    simp only [putA] at hp
    split at hp
    · rename_i ht; cases hp; exact ⟨_, EF_set ht⟩
    · cases hp
theorem Shaped.start (args : List Value) (nt : Nat) (h : args.length ≤ nt) : Shaped nt (envOf0 args nt) := by
  have key : ∀ (l : List Value) (i : Nat) (e : Env), i + l.length ≤ nt → Shaped nt e → Shaped nt (envOf l i e) := by
    intro l
    induction l with
    | nil => intro i e _ hs; exact hs
    | cons v l ih =>
      intro i e hi hs
      simp only [List.length_cons] at hi
      obtain ⟨f, rfl⟩ := hs
      exact ih (i + 1) _ (by omega) ⟨_, EF_set (by omega)⟩
  refine key args 0 _ (by omega) ⟨fun _ => none, ?_⟩
  unfold EF
  rw [of_full]
  congr 1; omega

/-! ### A smaller continuation, a smaller answer -/
theorem LeO.refl (a : Out) : LeO a a := .inr rfl
theorem LeO.fail (a : Out) : LeO .fail a := .inl rfl
theorem LeO.trans {a b c : Out} (h : LeO a b) (k : LeO b c) : LeO a c := by
  rcases h with rfl | rfl
  · exact .inl rfl
  · exact k
theorem LeO.ifK {b : Bool} {x y x' y' : Out} (h : LeO x x') (k : LeO y y') : LeO (ifK b x y) (ifK b x' y') := by cases b <;> assumption
theorem LeO.bindO {o : Out} {k k' : Value → Heap → Out} (h : ∀ v g, LeO (k v g) (k' v g)) : LeO (bindO o k) (bindO o k') := by
  cases o with
  | ok v g => exact h v g
  | panic v g => exact .inr rfl
  | fail => exact .inr rfl
theorem LeO.bindN {o : Out} {k k' : Value → Heap → Out} (h : ∀ v g, LeO (k v g) (k' v g)) : LeO (bindN o k) (bindN o k') := by
  cases o with
  | ok v g => exact h v g
  | panic v g => exact .inr rfl
  | fail => exact .inr rfl

section
variable {P : Program}
theorem cellsK_alt {cast : TypeId → Value → (Value → Out) → Out} (hc : ∀ t v, (∀ k, cast t v k = .fail) ∨ ∀ k, cast t v k = k v) : ∀ (ts : List TypeId) (l : List Value), (∀ k, cellsK cast ts l k = .fail) ∨ ∀ k, cellsK cast ts l k = k l
  | [], [] => .inr fun _ => rfl
  | [], _ :: _ => .inl fun _ => rfl
  | _ :: _, [] => .inl fun _ => rfl
  | t :: ts, v :: r => by
    rcases hc t v with h1 | h1
    · exact .inl fun k => by simp only [cellsK, consK, h1]
    · rcases cellsK_alt hc ts r with h2 | h2
      · exact .inl fun k => by simp only [cellsK, consK, h1, h2]
      · exact .inr fun k => by simp only [cellsK, consK, h1, h2]
theorem typedK_alt : ∀ (n : Nat) (t : TypeId) (v : Value), (∀ k, typedK P n t v k = .fail) ∨ ∀ k, typedK P n t v k = k v
  | 0, _, _ => .inr fun _ => rfl
  | n + 1, t, v => by
    have ih := typedK_alt n
    simp only [typedK]
    split
    · cases v <;> first | exact .inr fun _ => rfl | exact .inl fun _ => rfl
    · rename_i kd _
      cases v <;> first | exact .inl fun _ => rfl | skip
      rename_i kd' m
      simp only [intK]
      cases hk : (kd' == kd) with
      | false => exact .inl fun _ => rfl
      | true =>
        have : kd' = kd := by simpa using hk
        subst this
        exact .inr fun _ => rfl
    · cases v <;> first | exact .inr fun _ => rfl | exact .inl fun _ => rfl
    · cases v <;> first | exact .inr fun _ => rfl | exact .inl fun _ => rfl
    · rename_i ts _
      cases v <;> first | exact .inl fun _ => rfl | skip
      rename_i cs
      simp only [tupK]
      rcases cellsK_alt ih ts.toList cs.toList with h | h
      · exact .inl fun k => h _
      · exact .inr fun k => h _
    · split
      · rename_i ts _
        cases v <;> first | exact .inl fun _ => rfl | skip
        rename_i cs
        simp only [aggK]
        rcases cellsK_alt ih ts cs.toList with h | h
        · exact .inl fun k => h _
        · exact .inr fun k => h _
      · exact .inr fun _ => rfl
    · exact .inr fun _ => rfl
theorem castK_mono {o : Oper} {v : Value} {k k' : Value → Out} (h : ∀ v, LeO (k v) (k' v)) : LeO (castK P o v k) (castK P o v k') := by
  unfold castK
  split
  · rcases typedK_alt (P := P) 3 o.type v with h1 | h1
    · rw [h1, h1]; exact LeO.refl _
    · rw [h1, h1]; exact h v
  · exact h v

variable {call : Nat → FuncId → List Value → Heap → Out} {ops : Array Oper} {nt : Nat}

theorem guardK_mono {o : Oper} {e : Env} (hs : Shaped nt e) {k k' : Bool → Env → Out} (h : ∀ b e, Shaped nt e → LeO (k b e) (k' b e)) : LeO (guardK ops o e k) (guardK ops o e k') := by
  unfold guardK
  split
  · exact h _ _ hs
  · split
    · split
      · split
        · rename_i d _ b hv
          split
          · rw [Env.set_same hv]; exact h _ _ hs
          · rw [Env.set_same hv]; exact h _ _ hs
        · exact h _ _ hs
        · exact LeO.refl _
      · exact h _ _ hs
    · exact h _ _ hs

theorem stepK_mono {ro : Nat} {o : Oper} {e : Env} {h : Heap} {bind : Out → (Value → Heap → Out) → Out} (hb : ∀ o k k', (∀ v g, LeO (k v g) (k' v g)) → LeO (bind o k) (bind o k')) {k k' : Value → Heap → Out} (hk : ∀ v g, LeO (k v g) (k' v g)) :
    LeO (stepK P call ro o e h bind k) (stepK P call ro o e h bind k') := by
  obtain ⟨dst, op, type, pos, after, guard⟩ := o
  cases op
  case pick c x y =>
    simp only [stepK]
    split
    · split <;> exact hb _ _ _ hk
    · exact LeO.refl _
  all_goals exact hb _ _ _ fun v g => castK_mono fun v' => hk v' g

theorem putK_mono {e : Env} {d : Option Tmp} {v : Value} (hs : Shaped nt e) {k k' : Env → Out} (h : ∀ e, Shaped nt e → LeO (k e) (k' e)) : LeO (putK e d v k) (putK e d v k') := by
  unfold putK
  split
  · rename_i e' hp; exact h _ (hs.put hp)
  · exact LeO.refl _

theorem opsK_mono {ro : Nat} : ∀ (os : List Oper) (e : Env) (h : Heap) (k k' : Env → Heap → Out), Shaped nt e → (∀ e h, Shaped nt e → LeO (k e h) (k' e h)) → LeO (opsK P call ops ro os e h k) (opsK P call ops ro os e h k')
  | [], e, h, k, k', hs, hk => hk e h hs
  | o :: os, e, h, k, k', hs, hk => by
    simp only [opsK]
    refine guardK_mono hs fun b e hs => LeO.ifK ?_ ?_
    · exact stepK_mono (bind := Go.Abs.bindO) (fun _ _ _ h => LeO.bindO h) fun v g => putK_mono hs fun e' hs' => opsK_mono os e' g k k' hs' hk
    · exact putK_mono hs fun e' hs' => opsK_mono os e' h k k' hs' hk

theorem preK_mono {ms : List Nat} {pre : List Oper} {ro : Nat} : ∀ (os : List Oper) (i : Nat) (e : Env) (h : Heap) (k k' : Env → Heap → Out), Shaped nt e → (∀ e h, Shaped nt e → LeO (k e h) (k' e h)) → LeO (preK P call ops ms pre ro os i e h k) (preK P call ops ms pre ro os i e h k')
  | [], i, e, h, k, k', hs, hk => hk e h hs
  | o :: os, i, e, h, k, k', hs, hk => by
    simp only [preK]
    refine guardK_mono hs fun b e hs => LeO.ifK ?_ ?_
    · exact stepK_mono (bind := Go.Abs.bindN) (fun _ _ _ h => LeO.bindN h) fun v g => putK_mono hs fun e' hs' => preK_mono os (i + 1) e' g k k' hs' hk
    · exact putK_mono hs fun e' hs' => preK_mono os (i + 1) e' h k k' hs' hk

theorem regionK_mono {ro : Nat} {draw : Bool} {e : Env} {h : Heap} {k k' : Env → Heap → Out} (hs : Shaped nt e) (hk : ∀ e h, Shaped nt e → LeO (k e h) (k' e h)) : LeO (regionK P call ro ops draw e h k) (regionK P call ro ops draw e h k') := by
  unfold regionK
  refine LeO.ifK (LeO.ifK ?_ (LeO.refl _)) (opsK_mono _ _ _ _ _ hs hk)
  exact preK_mono _ _ _ _ _ _ hs fun e' h' hs' => LeO.ifK (opsK_mono _ _ _ _ _ hs' hk) (LeO.refl _)

/-- One continuation below another, on environments of the shape. -/
structure KLe (nt : Nat) (k k' : COut → Out) : Prop where
  normal : ∀ e h, Shaped nt e → LeO (k (.normal e h)) (k' (.normal e h))
  exit : ∀ i e h, Shaped nt e → LeO (k (.exit i e h)) (k' (.exit i e h))
  ret : ∀ e h, Shaped nt e → LeO (k (.ret e h)) (k' (.ret e h))

theorem loopK_mono {body : Env → Heap → (COut → Out) → Out} (hb : ∀ e h k k', Shaped nt e → KLe nt k k' → LeO (body e h k) (body e h k')) : ∀ (n : Nat) (e : Env) (h : Heap) (k k' : COut → Out), Shaped nt e → KLe nt k k' → LeO (loopK body n e h k) (loopK body n e h k')
  | 0, _, _, _, _, _, _ => LeO.refl _
  | n + 1, e, h, k, k', hs, hk => by
    rw [loopK_succ, loopK_succ]
    exact hb e h _ _ hs ⟨fun e' h' hs' => loopK_mono hb n e' h' k k' hs' hk, hk.exit, hk.ret⟩

theorem execK_mono {lf ro : Nat} : ∀ (c : Code) (e : Env) (h : Heap) (k k' : COut → Out), Shaped nt e → KLe nt k k' → LeO (execK P call lf ro c e h k) (execK P call lf ro c e h k') := by
  intro c
  induction c with
  | skip => intro e h k k' hs hk; exact hk.normal e h hs
  | region id ops draw => intro e h k k' hs hk; exact regionK_mono hs fun e' h' hs' => hk.normal e' h' hs'
  | seq a b iha ihb =>
    intro e h k k' hs hk
    exact iha e h _ _ hs ⟨fun e' h' hs' => ihb e' h' k k' hs' hk, fun i e' h' hs' => hk.exit i e' h' hs', fun e' h' hs' => hk.ret e' h' hs'⟩
  | cond c a b iha ihb =>
    intro e h k k' hs hk
    simp only [execK, condK]
    split
    · exact LeO.ifK (iha e h k k' hs hk) (ihb e h k k' hs hk)
    · exact LeO.refl _
  | block id b ih =>
    intro e h k k' hs hk
    exact ih e h _ _ hs ⟨fun e' h' hs' => hk.normal e' h' hs', fun i e' h' hs' => LeO.ifK (hk.normal e' h' hs') (hk.exit i e' h' hs'), fun e' h' hs' => hk.ret e' h' hs'⟩
  | loop b ih => intro e h k k' hs hk; exact loopK_mono ih lf e h k k' hs hk
  | exit id => intro e h k k' hs hk; exact hk.exit id e h hs
  | ret => intro e h k k' hs hk; exact hk.ret e h hs
  | label l => intro e h k k' hs hk; exact hk.normal e h hs
  | scope b ih => intro e h k k' hs hk; exact ih e h k k' hs hk
  | _ => intros; exact LeO.refl _
end

/-- A continuation in three parts. -/
def outK (kn : Env → Heap → Out) (kx : Nat → Env → Heap → Out) (kr : Env → Heap → Out) : COut → Out
  | .normal e h => kn e h
  | .exit i e h => kx i e h
  | .ret e h => kr e h
  | _ => .fail
def getK (v : Option Value) (k : Value → Out) : Out := match v with | some v => k v | none => .fail

theorem getK_le {v : Option Value} {k : Value → Out} {r : Out} (h : ∀ x, v = some x → LeO (k x) r) : LeO (getK v k) r := by
  cases v with
  | none => exact LeO.fail _
  | some x => exact h x rfl
theorem intK_le {kd : IntKind} {v : Value} {k : Int → Out} {r : Out} (h : ∀ n, v = .int kd n → LeO (k n) r) : LeO (intK kd v k) r := by
  cases v <;> first | exact LeO.fail _ | skip
  rename_i kd' n
  simp only [intK]
  cases hk : (kd' == kd) with
  | false => exact LeO.fail _
  | true => have : kd' = kd := by simpa using hk
            subst this; exact h n rfl
theorem boolK_le {v : Value} {k : Bool → Out} {r : Out} (h : ∀ b, v = .bool b → LeO (k b) r) : LeO (boolK v k) r := by cases v <;> first | exact h _ rfl | exact LeO.fail _
theorem strK_le {v : Value} {k : ByteArray → Out} {r : Out} (h : ∀ b, v = .string b → LeO (k b) r) : LeO (strK v k) r := by cases v <;> first | exact h _ rfl | exact LeO.fail _
theorem sliceK_le {v : Value} {k : Option Addr → Nat → Nat → Out} {r : Out} (h : ∀ a n c, v = .slice a n c → LeO (k a n c) r) : LeO (sliceK v k) r := by cases v <;> first | exact h _ _ _ rfl | exact LeO.fail _
theorem updF_same {f : Nat → Option Value} {t : Nat} {v : Option Value} (h : f t = v) : updF f t v = f := by
  funext i
  unfold updF
  split
  · rename_i hi; have : i = t := by simpa using hi
    subst this; exact h.symm
  · rfl

/-- A loop by its body: what goes back is told by 'kb', what leaves it by 'kx', 'kr'. -/
theorem loop_le {nt : Nat} {body : Env → Heap → (COut → Out) → Out} (hb : ∀ e h k k', Shaped nt e → KLe nt k k' → LeO (body e h k) (body e h k')) {k : COut → Out} {kb : Nat → Env → Heap → Out} {kx : Nat → Env → Heap → Out} {kr : Env → Heap → Out}
    (h0 : ∀ e h, Shaped nt e → LeO (kb 0 e h) .fail) (hs : ∀ n e h, Shaped nt e → LeO (kb (n + 1) e h) (body e h (outK (kb n) kx kr))) (hx : ∀ i e h, Shaped nt e → LeO (kx i e h) (k (.exit i e h))) (hr : ∀ e h, Shaped nt e → LeO (kr e h) (k (.ret e h))) :
    ∀ n e h, Shaped nt e → LeO (kb n e h) (loopK body n e h k)
  | 0, e, h, hse => h0 e h hse
  | n + 1, e, h, hse => by
    rw [loopK_succ]
    refine (hs n e h hse).trans (hb e h _ _ hse ⟨fun e' h' hs' => ?_, fun i e' h' hs' => hx i e' h' hs', fun e' h' hs' => hr e' h' hs'⟩)
    exact loop_le hb h0 hs hx hr n e' h' hs'
end Go.Abs

namespace Go.Abs
set_option linter.unusedSimpArgs false
set_option linter.unusedVariables false

/-- A loop's name: its first region's number. -/
def firstId : Code → Nat
  | .region id _ _ => id
  | .seq a _ => firstId a
  | .cond _ a _ => firstId a
  | .block _ b => firstId b
  | .loop b => firstId b
  | .scope b => firstId b
  | _ => 0

/-- 'execK' where each loop is told by a table, what follows it included. -/
def execH (P : Program) (call : Nat → FuncId → List Value → Heap → Out) (ro : Nat) (H : Nat → Env → Heap → Out) (J : Nat → Option (Env → Heap → Out)) : Code → Env → Heap → (COut → Out) → Out
  | .skip, e, h, k => k (.normal e h)
  | .region _ ops draw, e, h, k => regionK P call ro ops draw e h fun e' h' => k (.normal e' h')
  | .seq a b, e, h, k => execH P call ro H J a e h fun
    | .normal e' h' => match J (firstId b) with
      | some g => g e' h'
      | none => execH P call ro H J b e' h' k
    | r => k r
  | .cond c a b, e, h, k => condK (ev P e c) (execH P call ro H J a e h k) (execH P call ro H J b e h k)
  | .block id b, e, h, k => execH P call ro H J b e h fun
    | .exit j e' h' => ifK (j == id) (k (.normal e' h')) (k (.exit j e' h'))
    | r => k r
  | .loop b, e, h, _ => H (firstId b) e h
  | .exit id, e, h, k => k (.exit id e h)
  | .ret, e, h, k => k (.ret e h)
  | .label _, e, h, k => k (.normal e h)
  | .scope b, e, h, k => execH P call ro H J b e h k
  | _, _, _, _ => .fail

variable {P : Program} {call : Nat → FuncId → List Value → Heap → Out} {lf ro nt : Nat} {H : Nat → Env → Heap → Out} {J : Nat → Option (Env → Heap → Out)}

def Hd (P : Program) (call : Nat → FuncId → List Value → Heap → Out) (lf ro nt : Nat) (H : Nat → Env → Heap → Out) (J : Nat → Option (Env → Heap → Out)) : Code → (COut → Out) → Prop
  | .seq a b, k => Hd P call lf ro nt H J a (seqK P call lf ro b k) ∧ (match J (firstId b) with | some g => ∀ e h, Shaped nt e → LeO (g e h) (execK P call lf ro b e h k) | none => Hd P call lf ro nt H J b k)
  | .cond _ a b, k => Hd P call lf ro nt H J a k ∧ Hd P call lf ro nt H J b k
  | .block id b, k => Hd P call lf ro nt H J b (blockK id k)
  | .loop b, k => ∀ e h, Shaped nt e → LeO (H (firstId b) e h) (loopK (execK P call lf ro b) lf e h k)
  | .scope b, k => Hd P call lf ro nt H J b k
  | _, _ => True

theorem execH_mono : ∀ (c : Code) (e : Env) (h : Heap) (k k' : COut → Out), Shaped nt e → KLe nt k k' → LeO (execH P call ro H J c e h k) (execH P call ro H J c e h k') := by
  intro c
  induction c with
  | skip => intro e h k k' hs hk; exact hk.normal e h hs
  | region id ops draw => intro e h k k' hs hk; exact regionK_mono hs fun e' h' hs' => hk.normal e' h' hs'
  | seq a b iha ihb =>
    intro e h k k' hs hk
    refine iha e h _ _ hs ⟨fun e' h' hs' => ?_, fun i e' h' hs' => hk.exit i e' h' hs', fun e' h' hs' => hk.ret e' h' hs'⟩
    simp only
    split
    · exact LeO.refl _
    · exact ihb e' h' k k' hs' hk
  | cond c a b iha ihb =>
    intro e h k k' hs hk
    simp only [execH, condK]
    split
    · exact LeO.ifK (iha e h k k' hs hk) (ihb e h k k' hs hk)
    · exact LeO.refl _
  | block id b ih =>
    intro e h k k' hs hk
    exact ih e h _ _ hs ⟨fun e' h' hs' => hk.normal e' h' hs', fun i e' h' hs' => LeO.ifK (hk.normal e' h' hs') (hk.exit i e' h' hs'), fun e' h' hs' => hk.ret e' h' hs'⟩
  | loop b ih => intro e h k k' hs hk; exact LeO.refl _
  | exit id => intro e h k k' hs hk; exact hk.exit id e h hs
  | ret => intro e h k k' hs hk; exact hk.ret e h hs
  | label l => intro e h k k' hs hk; exact hk.normal e h hs
  | scope b ih => intro e h k k' hs hk; exact ih e h k k' hs hk
  | _ => intros; exact LeO.refl _

theorem execH_le : ∀ (c : Code) (e : Env) (h : Heap) (k : COut → Out), Shaped nt e → Hd P call lf ro nt H J c k → LeO (execH P call ro H J c e h k) (execK P call lf ro c e h k) := by
  intro c
  induction c with
  | skip => intro e h k hs hd; exact LeO.refl _
  | region id ops draw => intro e h k hs hd; exact LeO.refl _
  | seq a b iha ihb =>
    intro e h k hs hd
    refine LeO.trans ?_ (iha e h (seqK P call lf ro b k) hs hd.1)
    refine execH_mono a e h _ _ hs ⟨fun e' h' hs' => ?_, fun i e' h' hs' => LeO.refl _, fun e' h' hs' => LeO.refl _⟩
    have h2 := hd.2
    simp only [seqK]
    split
    · rename_i g hg; rw [hg] at h2; exact h2 e' h' hs'
    · rename_i hg; rw [hg] at h2; exact ihb e' h' k hs' h2
  | cond c a b iha ihb =>
    intro e h k hs hd
    simp only [execH, execK, condK]
    split
    · exact LeO.ifK (iha e h k hs hd.1) (ihb e h k hs hd.2)
    · exact LeO.refl _
  | block id b ih =>
    intro e h k hs hd
    refine LeO.trans ?_ (ih e h (blockK id k) hs hd)
    exact execH_mono b e h _ _ hs ⟨fun e' h' hs' => LeO.refl _, fun i e' h' hs' => LeO.refl _, fun e' h' hs' => LeO.refl _⟩
  | loop b ih => intro e h k hs hd; exact hd e h hs
  | exit id => intro e h k hs hd; exact LeO.refl _
  | ret => intro e h k hs hd; exact LeO.refl _
  | label l => intro e h k hs hd; exact LeO.refl _
  | scope b ih => intro e h k hs hd; exact ih e h k hs hd
  | _ => intros; exact LeO.refl _

/-- A function by its text. -/
theorem body_le {fn : Func} {c : Code} {args : List Value} {h : Heap} {r : Out} (hb : fn.body = some c) (hl : args.length ≤ fn.ntmps) (hd : Hd P call lf ro fn.ntmps H J c (endK P fn))
    (hr : execH P call ro H J c (envOf0 args fn.ntmps) h (endK P fn) = r) : LeO r (bodyK P call lf ro fn args h) := by
  subst hr
  simp only [bodyK, hb]
  exact execH_le c _ h _ (Shaped.start args fn.ntmps hl) hd

/-- A loop by its text: one round. -/
theorem round_le {b : Code} {f : Nat → Option Value} {h : Heap} {k : COut → Out} {r : Out} (hd : Hd P call lf ro nt H J b k) (hr : execH P call ro H J b (EF nt f) h k = r) : LeO r (execK P call lf ro b (EF nt f) h k) := by
  subst hr
  exact execH_le b _ h k ⟨f, rfl⟩ hd

theorem LeO.of_eq {a b : Out} (h : a = b) : LeO a b := .inr h
theorem LeO.eq {a b : Out} (h : LeO a b) (hn : a ≠ .fail) : b = a := by
  rcases h with h | h
  · exact absurd h hn
  · exact h.symm
theorem call_le {ora : Ora} {n ro : Nat} {f : FuncId} {fn : Func} {args : List Value} {h : Heap} {r : Out} (ho : ora ro f args h = none) (hf : P.funcs[f]? = some fn) (hr : LeO r (bodyK P (callN P ora n) n ro fn args h)) : LeO r (callN P ora (n + 1) ro f args h) := by
  simp only [callN, callBy, ho, hf]; exact hr
end Go.Abs

namespace Go.Abs
set_option linter.unusedSimpArgs false
set_option linter.unusedVariables false
abbrev CT := Nat → FuncId → List Value → Heap → Out

def ptrK (v : Value) (k : Nat → Nat → Out) : Out := match v with | .pointer (some ⟨b, o, none⟩) => k b o | _ => .fail
def funK (f : FuncId) (v : Value) (k : List Value → List Value → Out) : Out := match v with | .func (.func g) a b => ifK (g == f) (k a.toList b.toList) .fail | _ => .fail
theorem ptrK_le {v : Value} {k : Nat → Nat → Out} {r : Out} (h : ∀ b o, v = .pointer (some ⟨b, o, none⟩) → LeO (k b o) r) : LeO (ptrK v k) r := by
  unfold ptrK
  split
  · exact h _ _ rfl
  · exact LeO.fail _
theorem aggK_le {v : Value} {k : List Value → Out} {r : Out} (h : ∀ l, v = .agg l.toArray → LeO (k l) r) : LeO (aggK v k) r := by
  cases v <;> first | exact LeO.fail _ | skip
  rename_i cs
  exact h cs.toList (by simp)
theorem tupK_le {v : Value} {k : List Value → Out} {r : Out} (h : ∀ l, v = .tuple l.toArray → LeO (k l) r) : LeO (tupK v k) r := by
  cases v <;> first | exact LeO.fail _ | skip
  rename_i cs
  exact h cs.toList (by simp)
theorem consK_le {l : List Value} {k : Value → List Value → Out} {r : Out} (h : ∀ v s, l = v :: s → LeO (k v s) r) : LeO (consK l k) r := by
  cases l with
  | nil => exact LeO.fail _
  | cons v s => exact h v s rfl
theorem nilK_le {l : List Value} {k : Out} {r : Out} (h : l = [] → LeO k r) : LeO (nilK l k) r := by
  cases l with
  | nil => exact h rfl
  | cons v s => exact LeO.fail _
theorem funK_le {f : FuncId} {v : Value} {k : List Value → List Value → Out} {r : Out} (h : ∀ a b, v = .func (.func f) a.toArray b.toArray → LeO (k a b) r) : LeO (funK f v k) r := by
  unfold funK
  split
  · rename_i g a b
    cases hg : (g == f) with
    | false => exact LeO.fail _
    | true =>
      have : g = f := by simpa using hg
      subst this
      exact h a.toList b.toList (by simp)
  · exact LeO.fail _

def seqH (P : Program) (call : CT) (ro : Nat) (H : Nat → Env → Heap → Out) (J : Nat → Option (Env → Heap → Out)) (b : Code) (k : COut → Out) : COut → Out
  | .normal e h => match J (firstId b) with
    | some g => g e h
    | none => execH P call ro H J b e h k
  | r => k r
section
variable {P : Program} {call : CT} {lf ro nt : Nat} {H : Nat → Env → Heap → Out} {J : Nat → Option (Env → Heap → Out)}
theorem KLe.refl (k : COut → Out) : KLe nt k k := ⟨fun _ _ _ => LeO.refl _, fun _ _ _ _ => LeO.refl _, fun _ _ _ => LeO.refl _⟩
theorem KLe.seq {b : Code} {k k' : COut → Out} (h : KLe nt k k') (hd : match J (firstId b) with | some g => ∀ e h, Shaped nt e → LeO (g e h) (execK P call lf ro b e h k') | none => Hd P call lf ro nt H J b k') : KLe nt (seqH P call ro H J b k) (seqK P call lf ro b k') := by
  refine ⟨fun e g hs => ?_, h.exit, h.ret⟩
  simp only [seqH, seqK]
  split
  · rename_i g' hg; rw [hg] at hd; exact hd e g hs
  · rename_i hg; rw [hg] at hd; exact (execH_mono b e g k k' hs h).trans (execH_le b e g k' hs hd)
theorem KLe.block {id : Nat} {k k' : COut → Out} (h : KLe nt k k') : KLe nt (blockK id k) (blockK id k') :=
  ⟨h.normal, fun i e g hs => LeO.ifK (h.normal e g hs) (h.exit i e g hs), h.ret⟩

def noCut : Nat → Option (Env → Heap → Out) := fun _ => none
/-- Where nothing is cut and nothing loops. -/
def freeJ (J : Nat → Option (Env → Heap → Out)) : Code → Bool
  | .seq a b => freeJ J a && freeJ J b && (J (firstId b)).isNone
  | .cond _ a b => freeJ J a && freeJ J b
  | .block _ b => freeJ J b
  | .loop _ => false
  | .scope b => freeJ J b
  | _ => true
theorem hd_free : ∀ {c : Code} {k : COut → Out}, freeJ J c = true → Hd P call lf ro nt H J c k := by
  intro c
  induction c with
  | seq a b iha ihb =>
    intro k h
    simp only [freeJ, Bool.and_eq_true] at h
    refine ⟨iha h.1.1, ?_⟩
    cases hj : J (firstId b) with
    | some g => rw [hj] at h; exact absurd h.2 (by simp)
    | none => exact ihb h.1.2
  | cond c a b iha ihb => intro k h; simp only [freeJ, Bool.and_eq_true] at h; exact ⟨iha h.1, ihb h.2⟩
  | block id b ih => intro k h; exact ih h
  | loop b ih => intro k h; cases h
  | scope b ih => intro k h; exact ih h
  | _ => intro k h; trivial
end

/-- A cut by its text. -/
theorem cut_le {P : Program} {call : CT} {lf ro nt : Nat} {H : Nat → Env → Heap → Out} {J : Nat → Option (Env → Heap → Out)} {b : Code} {f : Nat → Option Value} {h : Heap} {k k' : COut → Out} {r : Out} (hk : KLe nt k k') (hd : Hd P call lf ro nt H J b k') (hr : execH P call ro H J b (EF nt f) h k = r) : LeO r (execK P call lf ro b (EF nt f) h k') := by
  subst hr
  exact (execH_mono b _ h k k' ⟨f, rfl⟩ hk).trans (execH_le b _ h k' ⟨f, rfl⟩ hd)
def ifJ (b : Bool) (x y : Option (Env → Heap → Out)) : Option (Env → Heap → Out) := match b with | true => x | false => y
end Go.Abs

namespace Go.Abs
open Go.RowKit
set_option linter.unusedSimpArgs false
set_option linter.unusedVariables false
variable {P : Program} {ro0 B0 : Nat} {w0 : World} {μ : Mu} {h : Heap} {w w' : World}

/-- What happens above all that is known leaves it known. -/
theorem HR.above (hr : HR P ro0 B0 w0 μ h w) (hb : Below w.heap.size w w') : HR P ro0 B0 w0 μ h w' := by
  have hsz : B0 ≤ w.heap.size := Nat.le_trans hr.base hr.below.size
  refine { hr with blk := fun b l o hm hg hd => ?_, below := ?_ }
  · obtain ⟨obj, h1, h2⟩ := hr.blk b l o hm hg hd
    have hlt : l.blk < w.heap.size := (Array.getElem?_eq_some_iff.1 h1).1
    exact ⟨obj, by rw [hb.block _ hlt]; exact h1, h2⟩
  · exact hr.below.trans ⟨hb.os, hb.tape, hb.output, hb.size, fun k hk => hb.block k (by omega)⟩

/-- A heap of nothing but P's variables, of which nothing is known. -/
def H0 (P : Program) : Heap := { next := P.globals.size, tab := .leaf }
def mu0 (P : Program) : Mu := fun b => if b < P.globals.size then some ⟨b, 0, 0, 0⟩ else none
theorem HR.start (hw : P.globals.size ≤ w.heap.size) : HR P P.globals.size w.heap.size w (mu0 P) (H0 P) w := by
  have hm : ∀ b l, mu0 P b = some l → b < P.globals.size ∧ l.blk = b ∧ l.off = 0 := fun b l h => by
    unfold mu0 at h
    split at h
    · cases h; exact ⟨‹_›, rfl, rfl⟩
    · cases h
  refine ⟨fun b l h => (hm b l h).1, fun b _ => rfl, Nat.le_refl _, fun g hg => ⟨⟨g, 0, 0, 0⟩, by simp [mu0, hg], rfl, rfl⟩, fun b l o _ hg _ => ?_, fun b l h _ => ?_, fun b l h hb => ?_, fun b b' l l' _ _ _ hl => ?_, Below.refl _ _, Nat.le_refl _, hw⟩
  · simp [H0, Heap.get, T.get] at hg
  · obtain ⟨h1, h2, _⟩ := hm b l h; omega
  · have := (hm b l h).1; omega
  · obtain ⟨o, ho, _⟩ := hl; simp [H0, Heap.get, T.get] at ho

theorem VRs.eq_of {l l' : List Value} (h : VRs μ l l') (hk : ∀ v ∈ l, ∀ v', VR μ v v' → v' = v) : l' = l := by
  induction l generalizing l' with
  | nil => cases h; rfl
  | cons v l ih =>
    cases h with
    | cons _ v' _ l' hv hl => rw [hk v (by simp) v' hv, ih hl fun x hx => hk x (by simp [hx])]
theorem VR.plain_eq : ∀ (n : Nat) (v v' : Value), plainB n v = true → VR μ v v' → v' = v := by
  intro n
  induction n with
  | zero =>
    intro v v' hp hv
    cases hv <;> first | rfl | (simp [plainB] at hp; done) | skip
    all_goals simp [plainB] at hp
  | succ n ih =>
    intro v v' hp hv
    cases hv with
    | agg a a' ha =>
      simp only [plainB, List.all_eq_true] at hp
      have := ha.eq_of fun x hx x' => ih x x' (hp x hx)
      rw [Array.toList_inj.1 this]
    | tuple a a' ha =>
      simp only [plainB, List.all_eq_true] at hp
      have := ha.eq_of fun x hx x' => ih x x' (hp x hx)
      rw [Array.toList_inj.1 this]
    | func f a a' c c' ha hc =>
      simp only [plainB, Bool.and_eq_true, List.all_eq_true] at hp
      have h1 := ha.eq_of fun x hx x' => ih x x' (hp.1 x hx)
      have h2 := hc.eq_of fun x hx x' => ih x x' (hp.2 x hx)
      rw [Array.toList_inj.1 h1, Array.toList_inj.1 h2]
    | iface t v v' h =>
      simp only [plainB] at hp
      rw [ih _ _ hp h]
    | _ => first | rfl | (simp [plainB] at hp; done)

/-- A closed function, run once by the kernel, in any heap. -/
theorem closed_ok {ora : Ora} (hm : P.follows .mixedOrders = true) (hng : NoNG P) (ho : OraOk P ora) {n : Nat} {f : FuncId} {v : Value} {h1 : Heap} (hp : plainB 8 v = true) (hen : enterB P f = true)
    (hc : call P ora n P.globals.size f [] (H0 P) = .ok v h1) (hr : HR P ro0 B0 w0 μ h w) : Calls P f #[] w (Ret P ro0 B0 w0 μ h v) := by
  have hsz : P.globals.size ≤ w.heap.size := Nat.le_trans hr.gl (Nat.le_trans hr.base hr.below.size)
  have := call_ok hm hng ho n P.globals.size f [] (H0 P) hen P.globals.size w.heap.size w (mu0 P) w #[] (Nat.le_refl _) (HR.start hsz) .nil
  rw [hc] at this
  refine Calls.mono this fun e w' he => ?_
  cases e with
  | returned v' =>
    obtain ⟨μ', h2, h3, h4⟩ := he
    refine ⟨μ, Ext.refl _, hr.above h3.below, ?_⟩
    rw [VR.plain_eq 8 v v' hp h4]
    exact VR.plain 8 v hp
  | _ => exact he.elim
end Go.Abs

namespace Go.Abs
open Go.RowKit
set_option linter.unusedSimpArgs false
set_option linter.unusedVariables false
variable {P : Program}

def noOra : Ora := fun _ _ _ _ => none
theorem noOra_ok : OraOk P noOra := ⟨fun _ _ _ _ _ h => by simp [noOra] at h, fun _ _ _ _ _ h => by simp [noOra] at h⟩
end Go.Abs

namespace Go.Abs
set_option linter.unusedSimpArgs false
set_option linter.unusedVariables false
variable {P : Program} {ora : Ora} {ro : Nat} {h : Heap}

/-! ### Specifications -/
/-- From some fuel on, the answer is r. -/
def Evn (x : Nat → Out) (r : Out) : Prop := ∃ n, ∀ m, n ≤ m → x m = r
def Runs (P : Program) (ora : Ora) (ro : Nat) (f : FuncId) (args : List Value) (h : Heap) (r : Out) : Prop := r ≠ .fail ∧ Evn (fun m => callN P ora m ro f args h) r

theorem runs_of {f : FuncId} {fn : Func} {args : List Value} {r : Out} {t : Nat → Out} (ho : ora ro f args h = none) (hf : P.funcs[f]? = some fn) (hl : ∀ m, LeO (t m) (bodyK P (callN P ora m) m ro fn args h)) (hr : r ≠ .fail) (ht : Evn t r) :
    Runs P ora ro f args h r := by
  obtain ⟨n, hn⟩ := ht
  refine ⟨hr, n + 1, fun m hm => ?_⟩
  obtain ⟨k, rfl⟩ : ∃ k, m = k + 1 := ⟨m - 1, by omega⟩
  have h1 := hn k (by omega)
  have h2 := call_le ho hf (hl k)
  rw [h1] at h2
  exact LeO.eq h2 hr
theorem runs_ora {f : FuncId} {args : List Value} {r : Out} (ho : ora ro f args h = some r) (hr : r ≠ .fail) : Runs P ora ro f args h r :=
  ⟨hr, 1, fun m hm => by obtain ⟨k, rfl⟩ : ∃ k, m = k + 1 := ⟨m - 1, by omega⟩; simp only [callN, callBy, ho]⟩
/-- What runs here, the machine does. -/
theorem Runs.calls (hm : P.follows .mixedOrders = true) (hng : NoNG P) (ho : OraOk P ora) {f : FuncId} {args : List Value} {r : Out} (hr : Runs P ora ro f args h r) (hen : enterB P f = true) {ro0 B0 : Nat} {w0 w : World} {μ : Mu} {args' : Array Value}
    (hro : ro0 ≤ ro) (hh : HR P ro0 B0 w0 μ h w) (ha : VRs μ args args'.toList) : OutOk P f args' ro0 B0 w0 μ w r := by
  obtain ⟨hne, n, hn⟩ := hr
  replace hn : ∀ m, n ≤ m → callN P ora m ro f args h = r := hn
  have h1 := callN_ok (P := P) (ora := ora) n ro f args h (by rw [hn n (Nat.le_refl _)]; exact hne)
  rw [hn n (Nat.le_refl _)] at h1
  obtain ⟨r', _, rfl, m, hm2⟩ := h1
  have := call_ok hm hng ho m ro f args h hen ro0 B0 w0 μ w args' hro hh ha
  rwa [hm2 m (Nat.le_refl _)] at this

/-! ### Cells -/
theorem take?_one : ∀ {cs : List Value} {o : Nat} {v : Value}, cs[o]? = some v → take? cs o 1 = some [v]
  | [], o, v, h => by simp at h
  | x :: cs, 0, v, h => by simp at h; subst h; simp [take?]
  | x :: cs, o + 1, v, h => by simp at h; simp only [take?]; exact take?_one h
theorem take?_some : ∀ {cs : List Value} {o n : Nat}, o + n ≤ cs.length → take? cs o n = some ((cs.drop o).take n)
  | cs, o, 0, _ => by cases cs <;> simp [take?]
  | [], o, n + 1, h => by simp at h
  | x :: cs, 0, n + 1, h => by
    have := take?_some (cs := cs) (o := 0) (n := n) (by simp at h; omega)
    simp only [take?, this]; simp
  | x :: cs, o + 1, n + 1, h => by
    have := take?_some (cs := cs) (o := o) (n := n + 1) (by simp at h; omega)
    simp only [take?, this]; simp
theorem put?_some : ∀ {cs : List Value} {o : Nat} {vs : List Value}, o + vs.length ≤ cs.length → put? cs o vs = some (cs.take o ++ vs ++ cs.drop (o + vs.length))
  | cs, o, [], h => by cases cs <;> simp [put?]
  | [], o, v :: vs, h => by simp at h
  | c :: cs, 0, v :: vs, h => by
    have := put?_some (cs := cs) (o := 0) (vs := vs) (by simp at h ⊢; omega)
    simp only [put?, this]; simp
  | c :: cs, o + 1, v :: vs, h => by
    have := put?_some (cs := cs) (o := o) (vs := v :: vs) (by simp only [List.length_cons] at h ⊢; omega)
    have e1 : o + 1 + (v :: vs).length = o + (v :: vs).length + 1 := by omega
    simp only [put?, this, e1]; simp

theorem loadO_one {t : TypeId} {b o : Nat} {sz : Nat} {cs : List Value} {v : Value} (ha : isAgg? P t = some false) (hg : h.get b = some (.cells sz cs)) (hv : cs[o]? = some v) : loadO P t (.pointer (some ⟨b, o, none⟩)) h = .ok v h := by
  simp [loadO, opO, stepOp, ev, E3, Env.get, T.get, ha, readCells, hg, take?_one hv]
theorem idxO_slice {t e : TypeId} {b o n c s : Nat} {k : IntKind} {i : Int} (ht : P.underlying t = some (.slice e)) (hs : sizeOf? P e = some s) (h0 : 0 ≤ i) (h1 : i < n) :
    idxO P t (.slice (some ⟨b, o, none⟩) n c) (.int k i) h = .ok (.pointer (some ⟨b, o + i.toNat * s, none⟩)) h := by
  simp [idxO, opO, stepOp, ev, E3, Env.get, T.get, ht, hs, idxIn, h0, h1, addr_add]
end Go.Abs

namespace Go.Abs
set_option linter.unusedSimpArgs false
set_option linter.unusedVariables false
variable {P : Program} {ro : Nat} {h : Heap}

/-! ### Rows that a run owns -/
/-- A slice of elements of one cell whose row is the run's own and exactly its cells. -/
inductive Own (ro : Nat) (h : Heap) : Option Addr → Nat → Nat → List Value → Prop
  | nil : Own ro h none 0 0 []
  | row (b n : Nat) (l : List Value) (hb : ro ≤ b) (hn : b < h.next) (hl : l.length = n) (hg : h.get b = some (.cells 1 l)) (ho : l.all oneCell = true) : Own ro h (some ⟨b, 0, none⟩) n n l
def blkOf : Option Addr → Option Nat
  | some a => some a.block
  | none => none
/-- What lies in h lies in h', but for the blocks in S. -/
structure Keep (S : Nat → Prop) (h h' : Heap) : Prop where
  next : h.next ≤ h'.next
  get : ∀ b, b < h.next → ¬ S b → h'.get b = h.get b
theorem Keep.refl (S : Nat → Prop) (h : Heap) : Keep S h h := ⟨Nat.le_refl _, fun _ _ _ => rfl⟩
theorem Keep.trans {S : Nat → Prop} {a b c : Heap} (h1 : Keep S a b) (h2 : Keep S b c) : Keep S a c :=
  ⟨Nat.le_trans h1.next h2.next, fun x hx hs => by rw [h2.get x (Nat.lt_of_lt_of_le hx h1.next) hs, h1.get x hx hs]⟩
theorem Keep.mono {S S' : Nat → Prop} {a b : Heap} (h : Keep S a b) (hs : ∀ x, S x → S' x) : Keep S' a b := ⟨h.next, fun x hx hn => h.get x hx fun hh => hn (hs x hh)⟩
theorem Keep.push (S : Nat → Prop) (h : Heap) (o : Blk) : Keep S h (h.push o) := ⟨by rw [Heap.next_push]; omega, fun b hb _ => by rw [Heap.get_push, if_neg (by omega)]⟩

/-- An element type of one cell. -/
structure One (P : Program) (e : TypeId) (bytes : Nat) : Prop where
  info : ∃ i z, P.info? e = some i ∧ i.size = 1 ∧ i.bytes = bytes ∧ i.zero = some z ∧ z.cells.size = 1

theorem appO_own {st xt e e2 : TypeId} {bytes : Nat} (hst : P.underlying st = some (.slice e)) (hxt : P.underlying xt = some (.slice e2)) (he : One P e bytes) (hro : ro ≤ h.next) {a : Option Addr} {n c : Nat} {l : List Value} (hown : Own ro h a n c l)
    {ax : Addr} {nx cx : Nat} {new : List Value} (hx : readCells h ax nx = some new) (hnx : new.length = nx) (hone : new.all oneCell = true) (hpos : 0 < nx) (hb : (n + nx) * bytes ≤ bigLimit) (hb2 : n + nx ≤ bigLimit) :
    ∃ h', appO P ro st xt (.slice a n c) (.slice (some ax) nx cx) h = .ok (.slice (some ⟨h.next, 0, none⟩) (n + nx) (n + nx)) h' ∧ Own ro h' (some ⟨h.next, 0, none⟩) (n + nx) (n + nx) (l ++ new) ∧ h'.next = h.next + 1 ∧ Keep (fun b => blkOf a = some b) h h' := by
  obtain ⟨i, z, hi, hs, hbt, hz, hzs⟩ := he.info
  have hx1 : readCells h ax (nx * i.size) = some new := by rw [hs, Nat.mul_one]; exact hx
  have hne : nx ≠ 0 := by omega
  cases hown with
  | nil =>
    refine ⟨h.push (.cells 1 new), ?_, .row _ _ _ hro (by rw [Heap.next_push]; omega) (by simp [hnx]) (by rw [Heap.get_push, if_pos rfl]; simp) (by simpa using hone), Heap.next_push _ _, Keep.push _ _ _⟩
    simp only [Nat.zero_add] at hb hb2
    simp [appO, builtinOp, hst, hxt, hi, hz, hzs, hs, hx, appendOp, hne, hbt, hb, hb2]
  | row b _ _ hb0 hn hl hg ho =>
    have htk : take? l 0 n = some l := by rw [take?_some (by omega)]; simp [← hl]
    refine ⟨(h.put b .dead).push (.cells 1 (l ++ new)), ?_, .row _ _ _ hro (by rw [Heap.next_push, Heap.next_put]; omega) (by simp [hnx, hl]) (by rw [Heap.get_push, Heap.next_put, if_pos rfl]) (by simp [ho, hone]), by rw [Heap.next_push, Heap.next_put], ⟨by rw [Heap.next_push, Heap.next_put]; omega, fun x hx2 hxs => ?_⟩⟩
    · have h1 : ¬ n + nx ≤ n := by omega
      have h2 : ¬ b < ro := by omega
      simp [appO, builtinOp, hst, hxt, hi, hz, hzs, hs, hx, appendOp, hne, hbt, hb, hb2, h1, h2, hg, hl, hone, htk]
    · rw [Heap.get_push, Heap.next_put, if_neg (by omega), Heap.get_put, if_neg (fun e => hxs (by subst e; rfl))]
end Go.Abs

namespace Go.Abs
set_option linter.unusedSimpArgs false
set_option linter.unusedVariables false
variable {P : Program} {ora : Ora} {ro lo : Nat} {h h' : Heap}

/-! ### The calls of all fuels -/
open Classical in
noncomputable def callW (P : Program) (ora : Ora) (ro : Nat) (f : FuncId) (args : List Value) (h : Heap) : Out :=
  if hx : ∃ r, r ≠ .fail ∧ ∃ n, ∀ m, n ≤ m → call P ora m ro f args h = r then hx.choose else .fail
theorem callW_eq {f : FuncId} {args : List Value} {r : Out} (hr : r ≠ .fail) (h1 : ∃ n, ∀ m, n ≤ m → call P ora m ro f args h = r) : callW P ora ro f args h = r := by
  have hx : ∃ r, r ≠ .fail ∧ ∃ n, ∀ m, n ≤ m → call P ora m ro f args h = r := ⟨r, hr, h1⟩
  unfold callW
  rw [dif_pos hx]
  obtain ⟨_, n, hn⟩ := hx.choose_spec
  obtain ⟨m, hm⟩ := h1
  rw [← hn (max n m) (by omega), ← hm (max n m) (by omega)]
theorem callW_good : Good1 P ora (callW P ora) := by
  intro ro f args h hn
  by_cases hx : ∃ r, r ≠ .fail ∧ ∃ n, ∀ m, n ≤ m → call P ora m ro f args h = r
  · obtain ⟨r, h1, h2⟩ := hx
    rw [callW_eq h1 h2]
    exact ⟨r, h1, rfl, h2⟩
  · exact absurd (by unfold callW; rw [dif_neg hx]) hn
/-- What a body comes to, the call comes to. -/
theorem callW_body {f : FuncId} {fn : Func} {args : List Value} {lf : Nat} {t : Out} (ho : ora ro f args h = none) (hf : P.funcs[f]? = some fn) (hl : LeO t (bodyK P (callW P ora) lf ro fn args h)) (ht : t ≠ .fail) :
    callW P ora ro f args h = t := by
  have e1 : callBy P ora (callW P ora) lf ro f args h = t := by
    unfold callBy
    rw [ho, hf]
    exact LeO.eq hl ht
  have := callBy_ok callW_good lf ro f args h (by rw [e1]; exact ht)
  rw [e1] at this
  obtain ⟨r, h1, h2, h3⟩ := this
  exact callW_eq ht (h2 ▸ h3)
theorem callW_ora {f : FuncId} {args : List Value} {r : Out} (ho : ora ro f args h = some r) (hr : r ≠ .fail) : callW P ora ro f args h = r := by
  have e1 : callBy P ora (callW P ora) 0 ro f args h = r := by
    unfold callBy
    rw [ho]
  have := callBy_ok callW_good 0 ro f args h (by rw [e1]; exact hr)
  rw [e1] at this
  obtain ⟨r, h1, h2, h3⟩ := this
  exact callW_eq hr (h2 ▸ h3)
/-- What the calls come to, the machine does. -/
theorem callW_calls (hm : P.follows .mixedOrders = true) (hng : NoNG P) (ho : OraOk P ora) {f : FuncId} {args : List Value} {r : Out} (hr : callW P ora ro f args h = r) (hne : r ≠ .fail) (hen : enterB P f = true) {ro0 B0 : Nat} {w0 w : World} {μ : Mu} {args' : Array Value}
    (hro : ro0 ≤ ro) (hh : HR P ro0 B0 w0 μ h w) (ha : VRs μ args args'.toList) : OutOk P f args' ro0 B0 w0 μ w r := by
  obtain ⟨r', h1, h2, m, h3⟩ := callW_good (P := P) (ora := ora) ro f args h (by rw [hr]; exact hne)
  have h2 : r' = r := h2.trans hr
  subst h2
  have := call_ok hm hng ho m ro f args h hen ro0 B0 w0 μ w args' hro hh ha
  rwa [h3 m (Nat.le_refl _)] at this

/-! ### What a run may rely on -/
structure RowE where
  sz : Nat
  a : Option Addr
  c : Nat
  l : List Value
inductive Ent where
  | own (lo : Nat) (a : Option Addr) (sz : Nat) (l : List Value)
  | row (a : Option Addr) (c : Nat) (l : List Value)
  | rows (es : List RowE)
def blkA : Option Addr → Option Nat
  | some ⟨b, _, none⟩ => some b
  | _ => none
def Ent.on : Ent → Nat → Prop
  | .own _ a _ _, b => blkA a = some b
  | .row a _ _, b => blkA a = some b
  | .rows es, b => ∃ r ∈ es, blkA r.a = some b
def Ent.mine : Ent → Bool
  | .own _ _ _ _ => true
  | .row _ _ _ => false
  | .rows _ => false
def RowE.holds (h : Heap) (r : RowE) : Prop := r.l.length ≤ r.c * r.sz ∧ ((r.l = [] ∧ (r.a = none ∨ ∃ s, r.a = some ⟨0, 0, some s⟩)) ∨ ∃ b o cs, r.a = some ⟨b, o, none⟩ ∧ b < h.next ∧ h.get b = some (.cells r.sz cs) ∧ o + r.l.length ≤ cs.length ∧ (cs.drop o).take r.l.length = r.l ∧ r.l.all oneCell = true)
def Ent.holds (h : Heap) : Ent → Prop
  | .own lo a sz l => (a = none ∧ l = []) ∨ ∃ b, a = some ⟨b, 0, none⟩ ∧ lo ≤ b ∧ b < h.next ∧ h.get b = some (.cells sz l) ∧ l.all oneCell = true
  | .row a c l => l.length ≤ c ∧ ((l = [] ∧ (a = none ∨ ∃ s, a = some ⟨0, 0, some s⟩)) ∨ ∃ b o cs, a = some ⟨b, o, none⟩ ∧ b < h.next ∧ h.get b = some (.cells 1 cs) ∧ o + l.length ≤ cs.length ∧ (cs.drop o).take l.length = l ∧ l.all oneCell = true)
  | .rows es => ∀ r ∈ es, r.holds h
def Ent.Apart (x y : Ent) : Prop := (x.mine || y.mine) = true → ∀ b, x.on b → ¬ y.on b
structure Sat (ro : Nat) (h : Heap) (R : List Ent) : Prop where
  low : ro ≤ h.next
  all : ∀ e ∈ R, e.holds h
  apart : R.Pairwise Ent.Apart

theorem Ent.Apart.symm {x y : Ent} (hx : x.Apart y) : y.Apart x := fun hm b h1 h2 => hx (by rw [Bool.or_comm]; exact hm) b h2 h1
theorem RowE.keep {e : RowE} {S : Nat → Prop} (he : e.holds h) (hk : Keep S h h') (hs : ∀ b, blkA e.a = some b → ¬ S b) : e.holds h' := by
  obtain ⟨hc, h0 | ⟨b, o, cs, e1, h1, h2, h3⟩⟩ := he
  · exact ⟨hc, .inl h0⟩
  · exact ⟨hc, .inr ⟨b, o, cs, e1, Nat.lt_of_lt_of_le h1 hk.next, by rw [hk.get b h1 (hs b (by rw [e1]; rfl))]; exact h2, h3⟩⟩
theorem Ent.keep {e : Ent} {S : Nat → Prop} (he : e.holds h) (hk : Keep S h h') (hs : ∀ b, e.on b → ¬ S b) : e.holds h' := by
  cases e with
  | own lo a sz l =>
    rcases he with h0 | ⟨b, rfl, h1, h2, h3, h4⟩
    · exact .inl h0
    · exact .inr ⟨b, rfl, h1, Nat.lt_of_lt_of_le h2 hk.next, by rw [hk.get b h2 (hs b rfl)]; exact h3, h4⟩
  | row a c l =>
    obtain ⟨hc, h0 | ⟨b, o, cs, rfl, h1, h2, h3⟩⟩ := he
    · exact ⟨hc, .inl h0⟩
    · exact ⟨hc, .inr ⟨b, o, cs, rfl, Nat.lt_of_lt_of_le h1 hk.next, by rw [hk.get b h1 (hs b rfl)]; exact h2, h3⟩⟩
  | rows es => exact fun r hr => RowE.keep (he r hr) hk fun b hb => hs b ⟨r, hr, hb⟩
theorem RowE.on_lt {e : RowE} (he : e.holds h) {b : Nat} (hb : blkA e.a = some b) : b < h.next := by
  obtain ⟨hc, ⟨h0, e1 | ⟨s, e1⟩⟩ | ⟨b', o, cs, e1, h1, h2, h3⟩⟩ := he
  · simp [e1, blkA] at hb
  · simp [e1, blkA] at hb
  · simp [e1, blkA] at hb; omega
theorem Ent.on_lt {e : Ent} (he : e.holds h) {b : Nat} (hb : e.on b) : b < h.next := by
  cases e with
  | own lo a sz l =>
    rcases he with ⟨rfl, _⟩ | ⟨b', rfl, h1, h2, h3, h4⟩
    · simp [Ent.on, blkA] at hb
    · simp [Ent.on, blkA] at hb; omega
  | row a c l =>
    obtain ⟨hc, ⟨h0, rfl | ⟨s, rfl⟩⟩ | ⟨b', o, cs, rfl, h1, h2, h3⟩⟩ := he
    · simp [Ent.on, blkA] at hb
    · simp [Ent.on, blkA] at hb
    · simp [Ent.on, blkA] at hb; omega
  | rows es =>
    obtain ⟨r, hr, hb⟩ := hb
    exact RowE.on_lt (he r hr) hb

variable {R : List Ent} {e : Ent}
def pull : Nat → List Ent → Option (Ent × List Ent)
  | _, [] => none
  | 0, x :: r => some (x, r)
  | i + 1, x :: r => match pull i r with
    | some (y, r') => some (y, x :: r')
    | none => none
theorem pull_perm : ∀ {i : Nat} {R R' : List Ent} {e : Ent}, pull i R = some (e, R') → R.Perm (e :: R')
  | _, [], _, _, h => by simp [pull] at h
  | 0, x :: r, R', e, h => by simp only [pull, Option.some.injEq, Prod.mk.injEq] at h; obtain ⟨rfl, rfl⟩ := h; exact .refl _
  | i + 1, x :: r, R', e, h => by
    simp only [pull] at h
    split at h
    · rename_i y r' hr
      simp only [Option.some.injEq, Prod.mk.injEq] at h
      obtain ⟨rfl, rfl⟩ := h
      exact ((pull_perm hr).cons x).trans (.swap _ _ _)
    · simp at h
theorem Sat.perm {R' : List Ent} (hs : Sat ro h R) (hp : R.Perm R') : Sat ro h R' :=
  ⟨hs.low, fun e he => hs.all e (hp.mem_iff.2 he), hs.apart.perm hp fun hx => hx.symm⟩
theorem Sat.pull (hs : Sat ro h R) (i : Nat) {R' : List Ent} (hp : pull i R = some (e, R')) : Sat ro h (e :: R') := hs.perm (pull_perm hp)
theorem Sat.tail (hs : Sat ro h (e :: R)) : Sat ro h R := ⟨hs.low, fun x hx => hs.all x (List.mem_cons_of_mem _ hx), hs.apart.of_cons⟩
theorem Sat.head (hs : Sat ro h (e :: R)) : e.holds h := hs.all e (List.mem_cons_self ..)
theorem Sat.cons (hs : Sat ro h R) (he : e.holds h) (ha : ∀ x ∈ R, e.Apart x) : Sat ro h (e :: R) :=
  ⟨hs.low, fun x hx => by rcases List.mem_cons.1 hx with rfl | hx <;> first | exact he | exact hs.all x hx, List.pairwise_cons.2 ⟨ha, hs.apart⟩⟩
theorem Sat.dup {a : Option Addr} {c : Nat} {l : List Value} (hs : Sat ro h (.row a c l :: R)) : Sat ro h (.row a c l :: .row a c l :: R) :=
  hs.cons hs.head fun x hx => by
    rcases List.mem_cons.1 hx with rfl | hx
    · intro hm; simp [Ent.mine] at hm
    · exact (List.pairwise_cons.1 hs.apart).1 x hx
theorem Sat.weak {a : Option Addr} {l : List Value} (hs : Sat ro h (.own lo a 1 l :: R)) : Sat ro h (.row a l.length l :: R) := by
  refine hs.tail.cons ?_ fun x hx => ?_
  · rcases hs.head with ⟨rfl, rfl⟩ | ⟨b, rfl, h1, h2, h3, h4⟩
    · exact ⟨Nat.le_refl _, .inl ⟨rfl, .inl rfl⟩⟩
    · exact ⟨Nat.le_refl _, .inr ⟨b, 0, l, rfl, h2, h3, by omega, by simp, h4⟩⟩
  · intro hm b h1 h2
    exact (List.pairwise_cons.1 hs.apart).1 x hx rfl b h1 h2
theorem Sat.lower {lo' : Nat} {a : Option Addr} {sz : Nat} {l : List Value} (hs : Sat ro h (.own lo' a sz l :: R)) (hl : lo ≤ lo') : Sat ro h (.own lo a sz l :: R) := by
  refine hs.tail.cons ?_ (List.pairwise_cons.1 hs.apart).1
  rcases hs.head with h0 | ⟨b, rfl, h1, h2⟩
  · exact .inl h0
  · exact .inr ⟨b, rfl, Nat.le_trans hl h1, h2⟩
theorem Sat.ro' {ro' : Nat} (hs : Sat ro h R) (hl : ro' ≤ h.next) : Sat ro' h R := ⟨hl, hs.all, hs.apart⟩
theorem Sat.nilOwn (hs : Sat ro h R) (lo sz : Nat) : Sat ro h (.own lo none sz [] :: R) := hs.cons (.inl ⟨rfl, rfl⟩) fun x _ _ b hb => by simp [Ent.on, blkA] at hb
theorem Sat.nilRow (hs : Sat ro h R) (c : Nat) : Sat ro h (.row none c [] :: R) := hs.cons ⟨Nat.zero_le _, .inl ⟨rfl, .inl rfl⟩⟩ fun x _ _ b hb => by simp [Ent.on, blkA] at hb
theorem Sat.keep {S : Nat → Prop} (hs : Sat ro h R) (hk : Keep S h h') (hx : ∀ x ∈ R, ∀ b, x.on b → ¬ S b) : Sat ro h' R :=
  ⟨Nat.le_trans hs.low hk.next, fun x h1 => Ent.keep (hs.all x h1) hk (hx x h1), hs.apart⟩
theorem Sat.push (hs : Sat ro h R) (hl : lo ≤ h.next) {sz : Nat} {l : List Value} (ho : l.all oneCell = true) : Sat ro (h.push (.cells sz l)) (.own lo (some ⟨h.next, 0, none⟩) sz l :: R) := by
  refine (hs.keep (Keep.push (fun _ => False) h _) fun _ _ _ _ hf => hf).cons (.inr ⟨h.next, rfl, hl, by rw [Heap.next_push]; omega, by rw [Heap.get_push, if_pos rfl], ho⟩) fun x hx _ b h1 h2 => ?_
  simp only [Ent.on, blkA, Option.some.injEq] at h1
  have := Ent.on_lt (hs.all x hx) h2
  omega

/-! ### Steps -/
def IsBind (B : Out → (Value → Heap → Out) → Out) : Prop := ∀ v h k, B (.ok v h) k = k v h
theorem isO : IsBind bindO := fun _ _ _ => rfl
theorem isN : IsBind bindN := fun _ _ _ => rfl
variable {Q : Out → Prop} {B B1 B2 : Out → (Value → Heap → Out) → Out} {k : Value → Heap → Out}

theorem st_ok {o : Out} {v : Value} (hB : IsBind B) (he : o = .ok v h) (hq : Q (k v h)) : Q (B o k) := by rw [he, hB]; exact hq
theorem st_int {kd : IntKind} {n : Int} {k : Int → Out} (hq : Q (k n)) : Q (intK kd (.int kd n) k) := by
  have : intK kd (.int kd n) k = k n := by simp [intK, ifK]
  rw [this]; exact hq
theorem st_bool {n : Bool} {k : Bool → Out} (hq : Q (k n)) : Q (boolK (.bool n) k) := hq
theorem st_str {n : ByteArray} {k : ByteArray → Out} (hq : Q (k n)) : Q (strK (.string n) k) := hq
theorem st_slice {a : Option Addr} {n c : Nat} {k : Option Addr → Nat → Nat → Out} (hq : Q (k a n c)) : Q (sliceK (.slice a n c) k) := hq
theorem st_tup {l : List Value} {k : List Value → Out} (hq : Q (k l)) : Q (tupK (.tuple l.toArray) k) := hq
theorem st_agg {l : List Value} {k : List Value → Out} (hq : Q (k l)) : Q (aggK (.agg l.toArray) k) := hq
theorem st_cons {v : Value} {l : List Value} {k : Value → List Value → Out} (hq : Q (k v l)) : Q (consK (v :: l) k) := hq
theorem st_nil {k : Out} (hq : Q k) : Q (nilK [] k) := hq
theorem st_if {b : Bool} {x y : Out} (ht : b = true → Q x) (hf : b = false → Q y) : Q (ifK b x y) := by cases b <;> first | exact hf rfl | exact ht rfl
def letJ {α : Type} {β : Type} (j : α) (k : α → β) : β := k j
def pushJ {β : Type} (h : Heap) (sz : Nat) (l : List Value) (k : Heap → β) : β := k (h.push (.cells sz l))

/-! ### The pure text -/
def bindp {α β : Type} (x : Option α) (k : α → Option β) : Option β := match x with | some a => k a | none => none
def ifp {β : Type} (b : Bool) (x y : Option β) : Option β := match b with | true => x | false => y
theorem bindp_some {α β : Type} {x : Option α} {k : α → Option β} {r : β} (hp : bindp x k = some r) : ∃ a, x = some a ∧ k a = some r := by
  cases x with
  | none => cases hp
  | some a => exact ⟨a, rfl, hp⟩
theorem ifp_t {β : Type} {b : Bool} {x y : Option β} {r : β} (hb : b = true) (hp : ifp b x y = some r) : x = some r := by subst hb; exact hp
theorem ifp_f {β : Type} {b : Bool} {x y : Option β} {r : β} (hb : b = false) (hp : ifp b x y = some r) : y = some r := by subst hb; exact hp
theorem st_letJ {α β γ : Type} {r : γ} {fp : β} {gp : β → Option γ} {f : α} {g : α → Out} (hp : letJ fp gp = some r) (S : β → α → Prop) (hS : S fp f) (hq : ∀ jp j, S jp j → gp jp = some r → Q (g j)) : Q (letJ f g) := hq fp f hS hp
theorem st_pushJ {sz : Nat} {l : List Value} {f : Heap → Out} (hs : Sat ro h R) (hl : lo ≤ h.next) (ho : l.all oneCell = true) (hq : ∀ h', h' = h.push (.cells sz l) → Sat ro h' (.own lo (some ⟨h.next, 0, none⟩) sz l :: R) → Q (f h')) : Q (pushJ h sz l f) :=
  hq _ rfl (hs.push hl ho)

def idxp {α : Type} (l : List α) (i : Int) : Option α := if 0 ≤ i then l[i.toNat]? else none
def setp {α : Type} (l : List α) (i : Int) (v : α) : Option (List α) := if 0 ≤ i ∧ i.toNat < l.length then some (l.set i.toNat v) else none
def appp {α : Type} (bytes : Nat) (l x : List α) : Option (List α) := if (l.length + x.length) * bytes ≤ bigLimit ∧ l.length + x.length ≤ bigLimit then some (l ++ x) else none
def subp {α : Type} (l : List α) (i j : Int) : Option (List α) := if 0 ≤ i ∧ i ≤ j ∧ j ≤ l.length then some ((l.drop i.toNat).take (j.toNat - i.toNat)) else none
def catp (x y : ByteArray) : Option ByteArray := if ((x.size + y.size : Nat) : Int) > IntKind.i64.max then none else some (x ++ y)
def strp (l : List Int) : ByteArray := ⟨(l.map fun n => UInt8.ofNat n.toNat).toArray⟩
def bytp (s : ByteArray) : List Int := s.data.toList.map fun b => (b.toNat : Int)
def sidxp (s : ByteArray) (i : Int) : Option Int := if 0 ≤ i then (bytp s)[i.toNat]? else none
def repp {α : Type} (bytes : Nat) (z : α) (n : Int) : Option (List α) := if 0 ≤ n ∧ n ≤ bigLimit ∧ bytes * n.toNat ≤ bigLimit then some (List.replicate n.toNat z) else none
end Go.Abs

namespace Go.Abs
set_option linter.unusedSimpArgs false
set_option linter.unusedVariables false
variable {P : Program} {ora : Ora} {ro lo : Nat} {h h' : Heap} {R : List Ent} {Q : Out → Prop} {B B1 B2 : Out → (Value → Heap → Out) → Out} {k : Value → Heap → Out}

theorem own_cells {b sz : Nat} {l : List Value} (hs : Sat ro h (.own lo (some ⟨b, 0, none⟩) sz l :: R)) : lo ≤ b ∧ b < h.next ∧ h.get b = some (.cells sz l) ∧ l.all oneCell = true := by
  rcases hs.head with ⟨h0, _⟩ | ⟨b', hb, h1, h2, h3, h4⟩
  · simp at h0
  · simp only [Option.some.injEq, Addr.mk.injEq, true_and, and_true] at hb
    subst hb; exact ⟨h1, h2, h3, h4⟩
theorem row_cells {b o c : Nat} {l : List Value} (hs : Sat ro h (.row (some ⟨b, o, none⟩) c l :: R)) : ∃ cs, b < h.next ∧ h.get b = some (.cells 1 cs) ∧ o + l.length ≤ cs.length ∧ (cs.drop o).take l.length = l := by
  obtain ⟨hc, ⟨_, h0 | ⟨s, h0⟩⟩ | ⟨b', o', cs, hb, h1, h2, h3, h4, h5⟩⟩ := hs.head
  · simp at h0
  · simp at h0
  · simp only [Option.some.injEq, Addr.mk.injEq, and_true] at hb
    obtain ⟨rfl, rfl⟩ := hb
    exact ⟨cs, h1, h2, h3, h4⟩
theorem st_load {b sz o : Nat} {l : List Value} {t : TypeId} {v : Value} (hB : IsBind B) (hs : Sat ro h (.own lo (some ⟨b, 0, none⟩) sz l :: R)) (ht : isAgg? P t = some false) (hv : l[o]? = some v) (hq : Q (k v h)) : Q (B (loadO P t (.pointer (some ⟨b, o, none⟩)) h) k) :=
  st_ok hB (loadO_one ht (own_cells hs).2.2.1 hv) hq
theorem st_loadA {b sz o n : Nat} {l vs : List Value} {t : TypeId} (hB : IsBind B) (hs : Sat ro h (.own lo (some ⟨b, 0, none⟩) sz l :: R)) (ht : isAgg? P t = some true) (hn : sizeOf? P t = some n) (hv : take? l o n = some vs) (hq : Q (k (.agg vs.toArray) h)) : Q (B (loadO P t (.pointer (some ⟨b, o, none⟩)) h) k) :=
  st_ok hB (by simp [loadO, opO, stepOp, ev, E3, Env.get, T.get, ht, hn, readCells, (own_cells hs).2.2.1, hv]) hq
theorem loadO_row {b o c j : Nat} {l : List Value} {t : TypeId} {v : Value} (hs : Sat ro h (.row (some ⟨b, o, none⟩) c l :: R)) (ht : isAgg? P t = some false) (hv : l[j]? = some v) : loadO P t (.pointer (some ⟨b, o + j, none⟩)) h = .ok v h := by
  obtain ⟨cs, h1, h2, h3, h4⟩ := row_cells hs
  refine loadO_one ht h2 ?_
  have hj : j < l.length := by
    rcases Nat.lt_or_ge j l.length with hj | hj
    · exact hj
    · rw [List.getElem?_eq_none hj] at hv; cases hv
  rw [← h4] at hv
  rw [List.getElem?_take_of_lt hj, List.getElem?_drop] at hv
  exact hv
theorem idxp_lt {α : Type} {l : List α} {i : Int} {x : α} (hx : idxp l i = some x) : 0 ≤ i ∧ i < l.length ∧ l[i.toNat]? = some x := by
  unfold idxp at hx
  split at hx
  · rename_i h0
    have : i.toNat < l.length := by
      rcases Nat.lt_or_ge i.toNat l.length with hj | hj
      · exact hj
      · rw [List.getElem?_eq_none hj] at hx; cases hx
    exact ⟨h0, by omega, hx⟩
  · cases hx
theorem st_idxR {α : Type} {f : α → Value} {l : List α} {a : Option Addr} {n c : Nat} {i : Int} {kd : IntKind} {x : α} {st e t : TypeId} (hB1 : IsBind B1) (hB2 : IsBind B2) (hs : Sat ro h (.row a c (l.map f) :: R)) (hst : P.underlying st = some (.slice e)) (hz : sizeOf? P e = some 1) (ht : isAgg? P t = some false)
    (hn : n = l.length) (hx : idxp l i = some x) (hq : Q (k (f x) h)) : Q (B1 (idxO P st (.slice a n c) (.int kd i) h) fun v g => B2 (loadO P t v g) k) := by
  obtain ⟨h0, h1, h2⟩ := idxp_lt hx
  subst hn
  obtain ⟨hc, ⟨hl, _⟩ | ⟨b, o, cs, rfl, _⟩⟩ := hs.head
  · simp at hl; subst hl; simp at h1; omega
  · rw [idxO_slice hst hz h0 h1, hB1, Nat.mul_one, loadO_row hs ht (by rw [List.getElem?_map, h2]; rfl), hB2]; exact hq
theorem st_idxO {α : Type} {f : α → Value} {l : List α} {a : Option Addr} {n c : Nat} {i : Int} {kd : IntKind} {x : α} {st e t : TypeId} (hB1 : IsBind B1) (hB2 : IsBind B2) (hs : Sat ro h (.own lo a 1 (l.map f) :: R)) (hst : P.underlying st = some (.slice e)) (hz : sizeOf? P e = some 1) (ht : isAgg? P t = some false)
    (hn : n = l.length) (hx : idxp l i = some x) (hq : Q (k (f x) h)) : Q (B1 (idxO P st (.slice a n c) (.int kd i) h) fun v g => B2 (loadO P t v g) k) := by
  obtain ⟨h0, h1, h2⟩ := idxp_lt hx
  subst hn
  rcases hs.head with ⟨_, hl⟩ | ⟨b, rfl, _⟩
  · simp at hl; subst hl; simp at h1; omega
  · rw [idxO_slice hst hz h0 h1, hB1, Nat.mul_one, Nat.zero_add, loadO_one ht (own_cells hs).2.2.1 (by rw [List.getElem?_map, h2]; rfl), hB2]; exact hq
/-- What becomes of the others when one's own block is written. -/
theorem Sat.write {b sz sz' : Nat} {l l' : List Value} (hs : Sat ro h (.own lo (some ⟨b, 0, none⟩) sz l :: R)) (ho : l'.all oneCell = true) : Sat ro (h.put b (.cells sz' l')) (.own lo (some ⟨b, 0, none⟩) sz' l' :: R) := by
  obtain ⟨h1, h2, h3, h4⟩ := own_cells hs
  have hap := (List.pairwise_cons.1 hs.apart).1
  refine (hs.tail.keep (h' := h.put b (.cells sz' l')) (S := (· = b)) ⟨Nat.le_refl _, fun x _ hx => by rw [Heap.get_put, if_neg hx]⟩ fun x hx c hc he => ?_).cons (.inr ⟨b, rfl, h1, h2, by rw [Heap.get_put, if_pos rfl], ho⟩) hap
  subst he
  exact hap x hx rfl c rfl hc
theorem all_set {p : Value → Bool} : ∀ {l : List Value} {o : Nat} {v : Value}, l.all p = true → p v = true → (l.set o v).all p = true
  | [], _, _, _, _ => rfl
  | x :: l, 0, v, h, hv => by simp only [List.set, List.all_cons, Bool.and_eq_true] at h ⊢; exact ⟨hv, h.2⟩
  | x :: l, o + 1, v, h, hv => by simp only [List.set, List.all_cons, Bool.and_eq_true] at h ⊢; exact ⟨h.1, all_set h.2 hv⟩
theorem put?_set : ∀ {cs : List Value} {o : Nat} {v : Value}, o < cs.length → put? cs o [v] = some (cs.set o v)
  | [], _, _, h => by simp at h
  | c :: cs, 0, v, _ => by simp [put?]
  | c :: cs, o + 1, v, h => by simp only [put?, put?_set (cs := cs) (o := o) (by simpa using h)]; rfl
theorem cells_one {v : Value} (hv : oneCell v = true) : v.cells = #[v] := by cases v <;> first | rfl | cases hv
theorem st_store {b sz o : Nat} {l : List Value} {t : TypeId} {v : Value} (hB : IsBind B) (hs : Sat ro h (.own ro (some ⟨b, 0, none⟩) sz l :: R)) (ht : sizeOf? P t = some 1) (hv : oneCell v = true) (ho : o < l.length)
    (hq : ∀ h', Sat ro h' (.own ro (some ⟨b, 0, none⟩) sz (l.set o v) :: R) → Q (k undef h')) : Q (B (storeO P ro t (.pointer (some ⟨b, o, none⟩)) v h) k) := by
  obtain ⟨h1, h2, h3, h4⟩ := own_cells hs
  refine st_ok hB (h := h.put b (.cells sz (l.set o v))) ?_ (hq _ (hs.write (all_set h4 hv)))
  have hb : ¬ b < ro := by omega
  simp [storeO, opO, stepOp, ev, E3, Env.get, T.get, ht, cells_one hv, writeCells, hb, hv, h3, put?_set ho]
theorem st_idxS {α : Type} {f : α → Value} {l l' : List α} {a : Option Addr} {n c : Nat} {i : Int} {kd : IntKind} {x : α} {st e t : TypeId} (hB1 : IsBind B1) (hB2 : IsBind B2) (hs : Sat ro h (.own ro a 1 (l.map f) :: R)) (hst : P.underlying st = some (.slice e)) (hz : sizeOf? P e = some 1) (ht : sizeOf? P t = some 1) (hf : ∀ x, oneCell (f x) = true)
    (hn : n = l.length) (hx : setp l i x = some l') (hq : ∀ h', Sat ro h' (.own ro a 1 (l'.map f) :: R) → Q (k undef h')) : Q (B1 (idxO P st (.slice a n c) (.int kd i) h) fun v g => B2 (storeO P ro t v (f x) g) k) := by
  unfold setp at hx
  split at hx
  · rename_i h0
    cases hx
    subst hn
    rcases hs.head with ⟨_, hl⟩ | ⟨b, rfl, _⟩
    · simp at hl; subst hl; simp at h0
    · rw [idxO_slice hst hz h0.1 (by omega), hB1, Nat.mul_one, Nat.zero_add]
      refine st_store hB2 hs ht (hf x) (by rw [List.length_map]; exact h0.2) fun h' hs' => hq h' ?_
      rwa [List.map_set]
  · cases hx

/-! ### append -/
theorem take?_all (l : List Value) : take? l 0 l.length = some l := by rw [take?_some (by omega)]; simp
theorem app_ok {e st xt bytes : Nat} {a : Option Addr} {l new : List Value} {x : Value} {n nx : Nat} (hst : P.underlying st = some (.slice e)) (he : One P e bytes) (hs : Sat ro h (.own ro a 1 l :: R)) (hn : n = l.length) (hnx : nx = new.length) (hone : new.all oneCell = true)
    (hb : (n + nx) * bytes ≤ bigLimit) (hb2 : n + nx ≤ bigLimit) : ∃ a' h', appendOp ro 1 bytes (.slice a n n) new nx h = .ok (.slice a' (n + nx) (n + nx)) h' ∧ Sat ro h' (.own ro a' 1 (l ++ new) :: R) := by
  subst hn hnx
  have hap := (List.pairwise_cons.1 hs.apart).1
  by_cases h0 : new.length = 0
  · have : new = [] := List.eq_nil_of_length_eq_zero h0
    subst this
    refine ⟨a, h, ?_, by simpa using hs⟩
    rcases hs.head with ⟨rfl, rfl⟩ | ⟨b, rfl, _⟩ <;> simp [appendOp]
  · rcases hs.head with ⟨rfl, rfl⟩ | ⟨b, rfl, h1, h2, h3, h4⟩
    · simp only [List.length_nil, Nat.zero_add] at hb hb2
      refine ⟨some ⟨h.next, 0, none⟩, h.push (.cells 1 new), ?_, hs.tail.push (hs.low) hone⟩
      simp [appendOp, h0, hb, hb2]
    · refine ⟨some ⟨h.next, 0, none⟩, (h.put b .dead).push (.cells 1 (l ++ new)), ?_, ?_⟩
      · have e1 : ¬ l.length + new.length ≤ l.length := by omega
        have e2 : ¬ b < ro := by omega
        simp [appendOp, h0, hb, hb2, e1, e2, h3, hone, take?_all]
      · have hk : Sat ro (h.put b .dead) R := hs.tail.keep (S := (· = b)) ⟨Nat.le_refl _, fun x _ hx => by rw [Heap.get_put, if_neg hx]⟩ fun x hx c hc he => by subst he; exact hap x hx rfl c rfl hc
        have := hk.push (lo := ro) (sz := 1) (l := l ++ new) hk.low (by rw [List.all_append, h4, hone]; rfl)
        exact this
theorem all_map {α : Type} {f : α → Value} (hf : ∀ x, oneCell (f x) = true) (l : List α) : (l.map f).all oneCell = true := by
  induction l with
  | nil => rfl
  | cons x l ih => simp only [List.map_cons, List.all_cons, hf, ih]; rfl
theorem appp_eq {α : Type} {bytes : Nat} {l x y : List α} (hy : appp bytes l x = some y) : y = l ++ x ∧ (l.length + x.length) * bytes ≤ bigLimit ∧ l.length + x.length ≤ bigLimit := by
  unfold appp at hy
  split at hy
  · rename_i hb; cases hy; exact ⟨rfl, hb.1, hb.2⟩
  · cases hy
theorem readCells_own {b sz : Nat} {l : List Value} {n : Nat} (hs : Sat ro h (.own lo (some ⟨b, 0, none⟩) sz l :: R)) (hn : n = l.length) : readCells h ⟨b, 0, none⟩ n = some l := by
  subst hn
  simp [readCells, (own_cells hs).2.2.1, take?_all]
theorem readCells_row {a : Addr} {c : Nat} {l : List Value} {n : Nat} (hs : Sat ro h (.row (some a) c l :: R)) (hn : n = l.length) : readCells h a n = some l := by
  subst hn
  obtain ⟨hc, ⟨rfl, h0 | ⟨s, h0⟩⟩ | ⟨b', o', cs, hb, h1, h2, h3, h4, h5⟩⟩ := hs.head
  · simp at h0
  · simp only [Option.some.injEq] at h0; subst h0; simp [readCells]
  · simp only [Option.some.injEq] at hb; subst hb
    simp only [readCells, h2]
    rw [take?_some h3, h4]
theorem row_one {a : Option Addr} {c : Nat} {l : List Value} (hs : Sat ro h (.row a c l :: R)) : l.all oneCell = true := by
  obtain ⟨hc, ⟨rfl, _⟩ | ⟨_, _, _, _, _, _, _, _, h5⟩⟩ := hs.head
  · rfl
  · exact h5
section
variable {α : Type} {f : α → Value} {l x y : List α} {a a2 : Option Addr} {n c n2 c2 bytes : Nat} {st xt e e2 : TypeId}
theorem st_appR (hB : IsBind B) (hs : Sat ro h (.own ro a 1 (l.map f) :: .row a2 c2 (x.map f) :: R)) (hst : P.underlying st = some (.slice e)) (hxt : P.underlying xt = some (.slice e2)) (he : One P e bytes) (hn : n = l.length) (hc : c = l.length) (hn2 : n2 = x.length) (hy : appp bytes l x = some y)
    (hq : ∀ a' h', Sat ro h' (.own ro a' 1 (y.map f) :: .row a2 c2 (x.map f) :: R) → Q (k (.slice a' y.length y.length) h')) : Q (B (appO P ro st xt (.slice a n c) (.slice a2 n2 c2) h) k) := by
  obtain ⟨rfl, hb, hb2⟩ := appp_eq hy
  subst hn hc hn2
  have hs2 := hs.pull 1 rfl
  obtain ⟨a', h', e1, s1⟩ := app_ok (P := P) (st := st) (xt := xt) (x := undef) (new := x.map f) hst he hs (by rw [List.length_map]) (by rw [List.length_map]) (row_one hs2) hb hb2
  obtain ⟨i, z, hi, hz, hbt, hzz, hzs⟩ := he.info
  refine st_ok hB (v := .slice a' (l ++ x).length (l ++ x).length) (h := h') ?_ (hq a' h' (by rwa [List.map_append]))
  rw [List.length_append]
  cases a2 with
  | none =>
    have hx : x = [] := by
      obtain ⟨_, ⟨hl, _⟩ | ⟨b, o, cs, hb, _⟩⟩ := hs2.head
      · simpa using hl
      · cases hb
    subst hx
    simp [appO, builtinOp, hst, hxt, hi, hz, hzz, hzs, hbt] at e1 ⊢
    exact e1
  | some a2 =>
    simp [appO, builtinOp, hst, hxt, hi, hz, hzz, hzs, hbt, readCells_row hs2 (n := x.length) (by rw [List.length_map])]
    exact e1
theorem st_appO {lo2 : Nat} (hB : IsBind B) (hs : Sat ro h (.own ro a 1 (l.map f) :: .own lo2 a2 1 (x.map f) :: R)) (hf : ∀ x, oneCell (f x) = true) (hst : P.underlying st = some (.slice e)) (hxt : P.underlying xt = some (.slice e2)) (he : One P e bytes) (hn : n = l.length) (hc : c = l.length) (hn2 : n2 = x.length) (hy : appp bytes l x = some y)
    (hq : ∀ a' h', Sat ro h' (.own ro a' 1 (y.map f) :: .own lo2 a2 1 (x.map f) :: R) → Q (k (.slice a' y.length y.length) h')) : Q (B (appO P ro st xt (.slice a n c) (.slice a2 n2 c2) h) k) := by
  obtain ⟨rfl, hb, hb2⟩ := appp_eq hy
  subst hn hc hn2
  have hs2 := hs.pull 1 rfl
  obtain ⟨a', h', e1, s1⟩ := app_ok (P := P) (st := st) (xt := xt) (x := undef) (new := x.map f) hst he hs (by rw [List.length_map]) (by rw [List.length_map]) (all_map hf x) hb hb2
  obtain ⟨i, z, hi, hz, hbt, hzz, hzs⟩ := he.info
  refine st_ok hB (v := .slice a' (l ++ x).length (l ++ x).length) (h := h') ?_ (hq a' h' (by rwa [List.map_append]))
  rw [List.length_append]
  rcases hs2.head with ⟨rfl, hl⟩ | ⟨b, rfl, _⟩
  · have hx : x = [] := by simpa using hl
    subst hx
    simp [appO, builtinOp, hst, hxt, hi, hz, hzz, hzs, hbt] at e1 ⊢
    exact e1
  · simp [appO, builtinOp, hst, hxt, hi, hz, hzz, hzs, hbt, readCells_own hs2 (n := x.length) (by rw [List.length_map])]
    exact e1
theorem bytesOf_eq (s : ByteArray) : bytesOf s = (bytp s).map (Value.int .u8) := by simp [bytesOf, bytp, Function.comp_def]
theorem bytp_len (s : ByteArray) : (bytp s).length = s.size := by simp [bytp]
theorem st_appS {s : ByteArray} {l y : List Int} (hB : IsBind B) (hs : Sat ro h (.own ro a 1 (l.map (Value.int .u8)) :: R)) (hst : P.underlying st = some (.slice e)) (hxt : P.underlying xt = some .string) (he : One P e bytes) (hn : n = l.length) (hc : c = l.length) (hy : appp bytes l (bytp s) = some y)
    (hq : ∀ a' h', Sat ro h' (.own ro a' 1 (y.map (Value.int .u8)) :: R) → Q (k (.slice a' y.length y.length) h')) : Q (B (appO P ro st xt (.slice a n c) (.string s) h) k) := by
  obtain ⟨rfl, hb, hb2⟩ := appp_eq hy
  subst hn hc
  obtain ⟨a', h', e1, s1⟩ := app_ok (P := P) (st := st) (xt := xt) (x := undef) (new := (bytp s).map (Value.int .u8)) hst he hs (by rw [List.length_map]) (by rw [List.length_map]) (all_map (fun _ => rfl) _) hb hb2
  obtain ⟨i, z, hi, hz, hbt, hzz, hzs⟩ := he.info
  refine st_ok hB (v := .slice a' (l ++ bytp s).length (l ++ bytp s).length) (h := h') ?_ (hq a' h' (by rwa [List.map_append]))
  rw [List.length_append]
  simp only [appO, builtinOp, hst, hxt, hi, hz, hzz, hzs, hbt, isStrD, bytesOf_eq, bytp_len] at e1 ⊢
  simpa using e1

/-! ### make, slices, strings -/
theorem st_subR {i j : Int} {vi vj : Option Value} (hB : IsBind B) (hs : Sat ro h (.row a c (l.map f) :: R)) (hst : P.underlying st = some (.slice e)) (hz : sizeOf? P e = some 1) (hn : n = l.length) (hi : vi = none ∧ i = 0 ∨ ∃ kd, vi = some (.int kd i)) (hj : vj = none ∧ j = l.length ∨ ∃ kd, vj = some (.int kd j)) (hy : subp l i j = some y)
    (hq : ∀ a' c', Sat ro h (.row a' c' (y.map f) :: .row a c (l.map f) :: R) → Q (k (.slice a' y.length c') h)) : Q (B (sliceO P st (.slice a n c) vi vj h) k) := by
  unfold subp at hy
  split at hy
  · rename_i hb
    obtain ⟨h0, h1, h2⟩ := hb
    cases hy
    subst hn
    have hlen : ((l.drop i.toNat).take (j.toNat - i.toNat)).length = j.toNat - i.toNat := by simp; omega
    have hcap : l.length ≤ c := by have := hs.head.1; rwa [List.length_map] at this
    have eh : bnd l.length c vj = some j.toNat := by
      rcases hj with ⟨rfl, rfl⟩ | ⟨kd, rfl⟩
      · simp [bnd]
      · have : 0 ≤ j ∧ j ≤ (c : Int) := ⟨by omega, by omega⟩
        simp [bnd, this]
    have el : bnd 0 j.toNat vi = some i.toNat := by
      rcases hi with ⟨rfl, rfl⟩ | ⟨kd, rfl⟩
      · simp [bnd]
      · have : 0 ≤ i ∧ i ≤ (j.toNat : Int) := ⟨h0, by omega⟩
        simp only [bnd, this, and_self, if_true]
    have key : ∀ (a' : Option Addr) (c' : Nat), sliceOp P h st (.slice a l.length c) vi vj = some (.slice a' (j.toNat - i.toNat) c') → Ent.holds h (.row a' c' (((l.drop i.toNat).take (j.toNat - i.toNat)).map f)) → (∀ x ∈ R, (Ent.row a' c' (((l.drop i.toNat).take (j.toNat - i.toNat)).map f)).Apart x) → Q (B (sliceO P st (.slice a l.length c) vi vj h) k) := by
      intro a' c' e1 e2 e3
      refine st_ok hB (v := .slice a' (j.toNat - i.toNat) c') (h := h) (by simp [sliceO, opt, e1]) ?_
      have hs3 : Sat ro h (.row a' c' (((l.drop i.toNat).take (j.toNat - i.toNat)).map f) :: .row a c (l.map f) :: R) := hs.cons e2 fun x hx => by
        rcases List.mem_cons.1 hx with rfl | hx
        · intro hm; simp [Ent.mine] at hm
        · exact e3 x hx
      have := hq a' c' hs3
      rwa [hlen] at this
    obtain ⟨hc, ⟨hl, rfl | ⟨s, rfl⟩⟩ | ⟨b, o, cs, rfl, g1, g2, g3, g4, g5⟩⟩ := hs.head
    · have hl : l = [] := by simpa using hl
      subst hl
      simp only [List.length_nil] at h2
      have e0 : i.toNat = 0 ∧ j.toNat = 0 := by omega
      refine key none 0 (by simp only [sliceOp, hst, eh, el, hz]; simp [e0]) ⟨by simp, .inl ⟨by simp, .inl rfl⟩⟩ fun x hx _ b hb => by simp [Ent.on, blkA] at hb
    · have hl : l = [] := by simpa using hl
      subst hl
      simp only [List.length_nil] at h2
      have e0 : i.toNat = 0 ∧ j.toNat = 0 := by omega
      refine key (some ⟨0, 0, some s⟩) 0 (by simp only [sliceOp, hst, eh, el, hz]; simp [e0]) ⟨by simp, .inl ⟨by simp, .inr ⟨s, rfl⟩⟩⟩ fun x hx _ b hb => by simp [Ent.on, blkA] at hb
    · by_cases hci : c = i.toNat
      · have e0 : j.toNat = i.toNat := by omega
        refine key (some ⟨0, 0, some 0⟩) 0 (by simp only [sliceOp, hst, eh, el, hz]; simp [hci, e0]) ⟨by simp [e0], .inl ⟨by simp [e0], .inr ⟨0, rfl⟩⟩⟩ fun x hx _ b hb => by simp [Ent.on, blkA] at hb
      · rw [List.length_map] at g3 g4 hc
        refine key (some ⟨b, o + i.toNat, none⟩) (c - i.toNat) (by simp only [sliceOp, hst, eh, el, hz]; simp [hci, g2, addr_add]) ⟨by rw [List.length_map, hlen]; omega, .inr ⟨b, o + i.toNat, cs, rfl, g1, g2, by rw [List.length_map, hlen]; omega, ?_, ?_⟩⟩ ?_
        · rw [List.length_map, hlen, List.map_take, List.map_drop, ← g4, List.drop_take, List.take_take, List.drop_drop]
          congr 1
          omega
        · rw [List.map_take, List.map_drop]
          rw [List.all_eq_true] at g5 ⊢
          intro x hx
          exact g5 x (List.mem_of_mem_drop (List.mem_of_mem_take hx))
        · intro x hx hm b' hb hb2
          exact (List.pairwise_cons.1 hs.apart).1 x hx hm b' hb hb2
  · cases hy
theorem st_cat {t : TypeId} {cc : Bool} {x y z : ByteArray} (hB : IsBind B) (hz : catp x y = some z) (hq : Q (k (.string z) h)) : Q (B (binO P .add t cc (.string x) (.string y) h) k) := by
  refine st_ok hB (v := .string z) (h := h) ?_ hq
  unfold catp at hz
  split at hz
  · cases hz
  · rename_i hb; cases hz; simp only [binO, binop, strOp, if_neg hb, opt]
theorem st_sidx {s : ByteArray} {i x : Int} {kd : IntKind} {t : TypeId} (hB : IsBind B) (ht : P.underlying t = some .string) (hx : sidxp s i = some x) (hq : Q (k (.int .u8 x) h)) : Q (B (indexO P t (.string s) (.int kd i) h) k) := by
  refine st_ok hB (v := .int .u8 x) (h := h) ?_ hq
  unfold sidxp at hx
  split at hx
  · rename_i h0
    have hi : i.toNat < s.size := by
      rcases Nat.lt_or_ge i.toNat (bytp s).length with hj | hj
      · rwa [bytp_len] at hj
      · rw [List.getElem?_eq_none hj] at hx; cases hx
    have h2 : i < s.size := by omega
    have hx2 : (s.data.toList[i.toNat]?).map (fun b => ((b.toNat : Nat) : Int)) = some x := by rw [← hx]; unfold bytp; rw [List.getElem?_map]
    cases hg : s.data.toList[i.toNat]? with
    | none => rw [hg] at hx2; cases hx2
    | some b =>
      rw [hg] at hx2
      simp only [Option.map_some, Option.some.injEq] at hx2
      have hg2 : s.data[i.toNat]? = some b := by simpa using hg
      simp [indexO, opO, stepOp, ev, E3, Env.get, T.get, ht, idxIn, h0, h2]
      obtain ⟨_, hg3⟩ := Array.getElem?_eq_some_iff.1 hg2
      rw [hg3]; exact hx2
  · cases hx
theorem byteVals_ok : ∀ (l : List Int), byteVals (l.map (Value.int .u8)) = some (l.map fun n => UInt8.ofNat n.toNat)
  | [] => rfl
  | n :: l => by simp only [List.map_cons, byteVals, byteVals_ok l]
theorem st_strO {l : List Int} {d : TypeId} (hB : IsBind B) (hs : Sat ro h (.own lo a 1 (l.map (Value.int .u8)) :: R)) (hst : P.underlying st = some (.slice e)) (hd : P.underlying d = some .string) (he : P.underlying e = some (.int .u8)) (hn : n = l.length) (hq : Q (k (.string (strp l)) h)) : Q (B (conv P ro st d (.slice a n c) h) k) := by
  refine st_ok hB (v := .string (strp l)) (h := h) ?_ hq
  subst hn
  rcases hs.head with ⟨rfl, hl⟩ | ⟨b, rfl, _⟩
  · have hx : l = [] := by simpa using hl
    subst hx
    simp [conv, hst, hd, he, strp]; rfl
  · simp [conv, hst, hd, he, readCells_own hs (n := l.length) (by rw [List.length_map]), byteVals_ok, strp]
theorem st_strR {l : List Int} {d : TypeId} (hB : IsBind B) (hs : Sat ro h (.row a c (l.map (Value.int .u8)) :: R)) (hst : P.underlying st = some (.slice e)) (hd : P.underlying d = some .string) (he : P.underlying e = some (.int .u8)) (hn : n = l.length) (hq : Q (k (.string (strp l)) h)) : Q (B (conv P ro st d (.slice a n c) h) k) := by
  refine st_ok hB (v := .string (strp l)) (h := h) ?_ hq
  subst hn
  cases a with
  | none =>
    have hx : l = [] := by
      obtain ⟨_, ⟨hl, _⟩ | ⟨b, o, cs, hb, _⟩⟩ := hs.head
      · simpa using hl
      · cases hb
    subst hx
    simp [conv, hst, hd, he, strp]; rfl
  | some a => simp [conv, hst, hd, he, readCells_row hs (n := l.length) (by rw [List.length_map]), byteVals_ok, strp]
theorem st_byt {s : ByteArray} {d : TypeId} (hB : IsBind B) (hs : Sat ro h R) (hst : P.underlying st = some .string) (hd : P.underlying d = some (.slice e)) (he : P.underlying e = some (.int .u8))
    (hq : ∀ a' h', Sat ro h' (.own ro a' 1 ((bytp s).map (Value.int .u8)) :: R) → Q (k (.slice a' (bytp s).length (bytp s).length) h')) : Q (B (conv P ro st d (.string s) h) k) := by
  refine st_ok hB (v := .slice (some ⟨h.next, 0, none⟩) (bytp s).length (bytp s).length) (h := h.push (.cells 1 (bytesOf s))) (by rw [bytp_len]; simp [conv, hst, hd, he]) (hq _ _ ?_)
  rw [bytesOf_eq]
  exact hs.push hs.low (all_map (fun _ => rfl) _)
end
end Go.Abs

namespace Go.Abs
set_option linter.unusedSimpArgs false
set_option linter.unusedVariables false
variable {P : Program} {ora : Ora} {ro lo : Nat} {h h' : Heap} {R : List Ent} {Q : Out → Prop} {B B1 B2 : Out → (Value → Heap → Out) → Out} {k : Value → Heap → Out}

/-! ### Views of arrays, tables, parts of strings -/
def vidxp {α : Type} (n : Nat) (l : List α) (i : Int) : Option α := if 0 ≤ i ∧ i < n then l[i.toNat]? else none
def vsetp {α : Type} (n : Nat) (l : List α) (i : Int) (v : α) : Option (List α) := if 0 ≤ i ∧ i < n ∧ i.toNat < l.length then some (l.set i.toNat v) else none
def arrp {α : Type} (n : Nat) (l : List α) (j : Int) : Option Nat := if 0 ≤ j ∧ j ≤ n ∧ n ≤ l.length then some j.toNat else none
def vtakep {α : Type} (n : Nat) (l : List α) : Option (List α) := if n ≤ l.length then some (l.take n) else none
def ssubp (s : ByteArray) (i j : Int) : Option ByteArray := if 0 ≤ i ∧ i ≤ j ∧ j ≤ s.size then some (s.extract i.toNat j.toNat) else none

theorem st_idxV {α : Type} {f : α → Value} {l : List α} {a : Option Addr} {n c : Nat} {i : Int} {kd : IntKind} {x : α} {st e t : TypeId} (hB1 : IsBind B1) (hB2 : IsBind B2) (hs : Sat ro h (.own lo a 1 (l.map f) :: R)) (hst : P.underlying st = some (.slice e)) (hz : sizeOf? P e = some 1) (ht : isAgg? P t = some false)
    (hx : vidxp n l i = some x) (hq : Q (k (f x) h)) : Q (B1 (idxO P st (.slice a n c) (.int kd i) h) fun v g => B2 (loadO P t v g) k) := by
  unfold vidxp at hx
  split at hx
  · rename_i h0
    rcases hs.head with ⟨_, hl⟩ | ⟨b, rfl, _⟩
    · simp at hl; subst hl; simp at hx
    · rw [idxO_slice hst hz h0.1 h0.2, hB1, Nat.mul_one, Nat.zero_add, loadO_one ht (own_cells hs).2.2.1 (by rw [List.getElem?_map, hx]; rfl), hB2]; exact hq
  · cases hx
theorem st_idxSV {α : Type} {f : α → Value} {l l' : List α} {a : Option Addr} {n c : Nat} {i : Int} {kd : IntKind} {x : α} {st e t : TypeId} (hB1 : IsBind B1) (hB2 : IsBind B2) (hs : Sat ro h (.own ro a 1 (l.map f) :: R)) (hst : P.underlying st = some (.slice e)) (hz : sizeOf? P e = some 1) (ht : sizeOf? P t = some 1) (hf : ∀ x, oneCell (f x) = true)
    (hx : vsetp n l i x = some l') (hq : ∀ h', Sat ro h' (.own ro a 1 (l'.map f) :: R) → Q (k undef h')) : Q (B1 (idxO P st (.slice a n c) (.int kd i) h) fun v g => B2 (storeO P ro t v (f x) g) k) := by
  unfold vsetp at hx
  split at hx
  · rename_i h0
    cases hx
    rcases hs.head with ⟨_, hl⟩ | ⟨b, rfl, _⟩
    · simp at hl; subst hl; simp at h0
    · rw [idxO_slice hst hz h0.1 h0.2.1, hB1, Nat.mul_one, Nat.zero_add]
      refine st_store hB2 hs ht (hf x) (by rw [List.length_map]; exact h0.2.2) fun h' hs' => hq h' ?_
      rwa [List.map_set]
  · cases hx
theorem idxO_arr {t e : TypeId} {b o N s : Nat} {kd : IntKind} {i : Int} (ht : P.underlying t = some (.array N e)) (hs : sizeOf? P e = some s) (h0 : 0 ≤ i) (h1 : i < N) :
    idxO P t (.pointer (some ⟨b, o, none⟩)) (.int kd i) h = .ok (.pointer (some ⟨b, o + i.toNat * s, none⟩)) h := by
  simp [idxO, opO, stepOp, ev, E3, Env.get, T.get, ht, hs, idxIn, h0, h1, addr_add]
/-- An element of a table. -/
theorem st_idxT {α : Type} {f : α → Value} {l : List α} {b N c : Nat} {i : Int} {kd : IntKind} {x : α} {st e t : TypeId} (hB1 : IsBind B1) (hB2 : IsBind B2) (hs : Sat ro h (.row (some ⟨b, 0, none⟩) c (l.map f) :: R)) (hst : P.underlying st = some (.array N e)) (hz : sizeOf? P e = some 1) (ht : isAgg? P t = some false)
    (hn : l.length ≤ N) (hx : idxp l i = some x) (hq : Q (k (f x) h)) : Q (B1 (idxO P st (.pointer (some ⟨b, 0, none⟩)) (.int kd i) h) fun v g => B2 (loadO P t v g) k) := by
  obtain ⟨h0, h1, h2⟩ := idxp_lt hx
  rw [idxO_arr hst hz h0 (by omega), hB1, Nat.mul_one, loadO_row hs ht (by rw [List.getElem?_map, h2]; rfl), hB2]; exact hq
/-- A beginning of an array. -/
theorem st_arr {α : Type} {f : α → Value} {l : List α} {b N j' : Nat} {j : Int} {kd : IntKind} {st e : TypeId} (hB : IsBind B) (hs : Sat ro h (.own lo (some ⟨b, 0, none⟩) 1 (l.map f) :: R)) (hst : P.underlying st = some (.array N e)) (hz : sizeOf? P e = some 1) (hN : 0 < N) (hj : arrp N l j = some j')
    (hq : Q (k (.slice (some ⟨b, 0, none⟩) j' N) h)) : Q (B (sliceO P st (.pointer (some ⟨b, 0, none⟩)) none (some (.int kd j)) h) k) := by
  unfold arrp at hj
  split at hj
  · rename_i h0
    cases hj
    refine st_ok hB ?_ hq
    have : N ≠ 0 := by omega
    simp [sliceO, opt, sliceOp, hst, bnd, h0, hz, (own_cells hs).2.2.1, this, addr_add]
  · cases hj
theorem st_appV {α : Type} {f : α → Value} {l x x' y : List α} {a a2 : Option Addr} {n c n2 c2 bytes lo2 : Nat} {st xt e e2 : TypeId} (hB : IsBind B) (hs : Sat ro h (.own ro a 1 (l.map f) :: .own lo2 a2 1 (x.map f) :: R)) (hf : ∀ x, oneCell (f x) = true) (hst : P.underlying st = some (.slice e)) (hxt : P.underlying xt = some (.slice e2)) (he : One P e bytes) (hn : n = l.length) (hc : c = l.length)
    (hx : vtakep n2 x = some x') (hy : appp bytes l x' = some y)
    (hq : ∀ a' h', Sat ro h' (.own ro a' 1 (y.map f) :: .own lo2 a2 1 (x.map f) :: R) → Q (k (.slice a' y.length y.length) h')) : Q (B (appO P ro st xt (.slice a n c) (.slice a2 n2 c2) h) k) := by
  obtain ⟨rfl, hb, hb2⟩ := appp_eq hy
  unfold vtakep at hx
  split at hx
  · rename_i h2
    cases hx
    subst hn hc
    have hs2 := hs.pull 1 rfl
    have hlt : (x.take n2).length = n2 := by simp; omega
    rw [hlt] at hb hb2
    obtain ⟨a', h', e1, s1⟩ := app_ok (P := P) (st := st) (xt := xt) (x := undef) (new := (x.take n2).map f) hst he hs (by rw [List.length_map]) (by rw [List.length_map]) (all_map hf _) (by rw [hlt]; exact hb) (by rw [hlt]; exact hb2)
    rw [hlt] at e1
    obtain ⟨i, z, hi, hz, hbt, hzz, hzs⟩ := he.info
    refine st_ok hB (v := .slice a' (l ++ x.take n2).length (l ++ x.take n2).length) (h := h') ?_ (hq a' h' (by rwa [List.map_append]))
    rw [List.length_append, hlt]
    rcases hs2.head with ⟨rfl, hl⟩ | ⟨b, rfl, h3, h4, h5, h6⟩
    · have hx : x = [] := by simpa using hl
      subst hx
      simp only [List.length_nil, Nat.le_zero] at h2
      subst h2
      simp [appO, builtinOp, hst, hxt, hi, hz, hzz, hzs, hbt] at e1 ⊢
      exact e1
    · have : readCells h ⟨b, 0, none⟩ n2 = some ((x.take n2).map f) := by
        simp only [readCells, h5]
        rw [take?_some (by rw [List.length_map]; omega), List.drop_zero, List.map_take]
      simp [appO, builtinOp, hst, hxt, hi, hz, hzz, hzs, hbt, this]
      simpa using e1
  · cases hx
theorem st_ssub {s y : ByteArray} {i j : Int} {vi vj : Option Value} {t : TypeId} (hB : IsBind B) (ht : P.underlying t = some .string) (hi : vi = none ∧ i = 0 ∨ ∃ kd, vi = some (.int kd i)) (hj : vj = none ∧ j = s.size ∨ ∃ kd, vj = some (.int kd j)) (hy : ssubp s i j = some y) (hq : Q (k (.string y) h)) : Q (B (sliceO P t (.string s) vi vj h) k) := by
  unfold ssubp at hy
  split at hy
  · rename_i hb
    obtain ⟨h0, h1, h2⟩ := hb
    cases hy
    refine st_ok hB (v := .string (s.extract i.toNat j.toNat)) (h := h) ?_ hq
    have eh : bnd s.size s.size vj = some j.toNat := by
      rcases hj with ⟨rfl, rfl⟩ | ⟨kd, rfl⟩
      · simp [bnd]
      · have : 0 ≤ j ∧ j ≤ (s.size : Int) := ⟨by omega, h2⟩
        simp only [bnd, this, and_self, if_true]
    have el : bnd 0 j.toNat vi = some i.toNat := by
      rcases hi with ⟨rfl, rfl⟩ | ⟨kd, rfl⟩
      · simp [bnd]
      · have : 0 ≤ i ∧ i ≤ (j.toNat : Int) := ⟨h0, by omega⟩
        simp only [bnd, this, and_self, if_true]
    simp [sliceO, opt, sliceOp, ht, eh, el]
  · cases hy
/-! ### Calls that may panic -/
inductive Res (α β : Type) where
  | ok (x : α)
  | pan (y : β)
def bindr {α β γ : Type} (x : Option (Res α β)) (kp : β → Option γ) (k : α → Option γ) : Option γ := match x with
  | some (.ok a) => k a
  | some (.pan b) => kp b
  | none => none
theorem bindr_some {α β γ : Type} {x : Option (Res α β)} {kp : β → Option γ} {k : α → Option γ} {r : γ} (hp : bindr x kp k = some r) : ∃ y, x = some y ∧ bindr (some y) kp k = some r := by
  cases x with
  | none => cases hp
  | some y => exact ⟨y, rfl, hp⟩
theorem bindr_ok {α β γ : Type} {a : α} {kp : β → Option γ} {k : α → Option γ} {r : γ} (hp : bindr (some (Res.ok a)) kp k = some r) : k a = some r := hp
theorem bindr_pan {α β γ : Type} {a : β} {kp : β → Option γ} {k : α → Option γ} {r : γ} (hp : bindr (some (Res.pan a)) kp k = some r) : kp a = some r := hp
theorem st_pan {o : Out} {v : Value} (he : o = .panic v h') (hq : Q (.panic v h')) : Q (bindO o k) := by rw [he]; exact hq
/-! ### Numbers, make, structs -/
def quop (kd : IntKind) (x y : Int) : Option Int := if y = 0 then none else some (kd.wrap (x.tdiv y))
def remp (x y : Int) : Option Int := if y = 0 then none else some (x.tmod y)
def shlp (kd : IntKind) (x y : Int) : Option Int := if y < 0 then none else some (kd.wrap (x * 2 ^ (min y.toNat kd.bits)))
def shrp (kd : IntKind) (x y : Int) : Option Int := if y < 0 then none else some (x.fdiv (2 ^ (min y.toNat kd.bits)))
theorem st_quo {kd : IntKind} {x y z : Int} {t : TypeId} {c : Bool} (hB : IsBind B) (hz : quop kd x y = some z) (hq : Q (k (.int kd z) h)) : Q (B (binO P .quo t c (.int kd x) (.int kd y) h) k) := by
  unfold quop at hz
  split at hz
  · cases hz
  · rename_i h0; cases hz; exact st_ok hB (by simp [binO, binop, intOp, opt, h0]) hq
theorem st_rem {kd : IntKind} {x y z : Int} {t : TypeId} {c : Bool} (hB : IsBind B) (hz : remp x y = some z) (hq : Q (k (.int kd z) h)) : Q (B (binO P .rem t c (.int kd x) (.int kd y) h) k) := by
  unfold remp at hz
  split at hz
  · cases hz
  · rename_i h0; cases hz; exact st_ok hB (by simp [binO, binop, intOp, opt, h0]) hq
theorem st_shl {kd kd' : IntKind} {x y z : Int} {t : TypeId} {c : Bool} (hB : IsBind B) (hz : shlp kd x y = some z) (hq : Q (k (.int kd z) h)) : Q (B (binO P .shl t c (.int kd x) (.int kd' y) h) k) := by
  unfold shlp at hz
  split at hz
  · cases hz
  · rename_i h0; cases hz; exact st_ok hB (by simp [binO, binop, shiftOp, opt, h0]) hq
theorem st_shr {kd kd' : IntKind} {x y z : Int} {t : TypeId} {c : Bool} (hB : IsBind B) (hz : shrp kd x y = some z) (hq : Q (k (.int kd z) h)) : Q (B (binO P .shr t c (.int kd x) (.int kd' y) h) k) := by
  unfold shrp at hz
  split at hz
  · cases hz
  · rename_i h0; cases hz; exact st_ok hB (by simp [binO, binop, shiftOp, opt, h0]) hq
theorem rep_map {α : Type} {f : α → Value} {z : α} {v : Value} (hf : f z = v) : ∀ n, rep [v] n = (List.replicate n z).map f
  | 0 => rfl
  | n + 1 => by simp only [rep, rep_map hf n, List.replicate_succ, List.map_cons, hf]; rfl
theorem st_make {α : Type} {f : α → Value} {z : α} {zv : Value} {l : List α} {t e : TypeId} {i : TypeInfo} {bytes : Nat} {n : Int} (hB : IsBind B) (hs : Sat ro h R) (hf : ∀ x, oneCell (f x) = true) (ht : P.underlying t = some (.slice e)) (hi : P.info? e = some i) (hsz : i.size = 1) (hbt : i.bytes = bytes) (hz : zeroOf P e = some zv) (hzz : zv.cells.toList = [f z]) (hl : repp bytes z n = some l)
    (hq : ∀ a' h', Sat ro h' (.own ro a' 1 (l.map f) :: R) → Q (k (.slice a' l.length l.length) h')) : Q (B (msliceO P t (.int .i64 n) (.int .i64 n) h) k) := by
  unfold repp at hl
  split at hl
  · rename_i hb
    cases hl
    refine st_ok hB (v := .slice (some ⟨h.next, 0, none⟩) (List.replicate n.toNat z).length (List.replicate n.toNat z).length) (h := h.push (.cells 1 ((List.replicate n.toNat z).map f))) ?_ (hq _ _ (hs.push hs.low (all_map hf _)))
    simp [msliceO, opO, stepOp, ev, E3, Env.get, T.get, ht, hi, hz, hsz, hbt, hb, hzz, rep_map (f := f) rfl]
  · cases hl
theorem all_take {p : Value → Bool} {l : List Value} {n : Nat} (h : l.all p = true) : (l.take n).all p = true := by rw [List.all_eq_true] at h ⊢; exact fun x hx => h x (List.mem_of_mem_take hx)
theorem all_drop {p : Value → Bool} {l : List Value} {n : Nat} (h : l.all p = true) : (l.drop n).all p = true := by rw [List.all_eq_true] at h ⊢; exact fun x hx => h x (List.mem_of_mem_drop hx)
/-- A struct is stored. -/
theorem st_storeA {b sz o n : Nat} {l vs l' : List Value} {t : TypeId} (hB : IsBind B) (hs : Sat ro h (.own ro (some ⟨b, 0, none⟩) sz l :: R)) (ht : sizeOf? P t = some n) (hn : vs.length = n) (hv : vs.all oneCell = true) (hl : put? l o vs = some l') (ho : l'.all oneCell = true)
    (hq : ∀ h', Sat ro h' (.own ro (some ⟨b, 0, none⟩) sz l' :: R) → Q (k undef h')) : Q (B (storeO P ro t (.pointer (some ⟨b, o, none⟩)) (.agg vs.toArray) h) k) := by
  obtain ⟨h1, h2, h3, h4⟩ := own_cells hs
  have hb : ¬ b < ro := by omega
  have hc : (Value.agg vs.toArray).cells = vs.toArray := rfl
  cases vs with
  | nil =>
    have hl2 : l' = l := by cases l <;> simp only [put?, Option.some.injEq] at hl <;> exact hl.symm
    subst hl2
    refine st_ok hB (v := undef) (h := h) ?_ (hq _ hs)
    simp [storeO, opO, stepOp, ev, E3, Env.get, T.get, ht, hc, writeCells, ← hn]
  | cons v vs =>
    refine st_ok hB (v := undef) (h := h.put b (.cells sz l')) ?_ (hq _ (hs.write ho))
    have hv3 : oneCell v = true ∧ ∀ x, x ∈ vs → oneCell x = true := by simpa using hv
    simp [storeO, opO, stepOp, ev, E3, Env.get, T.get, ht, hc, ← hn, writeCells, hb, h3, hl]
    rw [if_pos hv3]
/-! ### Results that lie in memory -/
theorem readCells_at {b sz o n : Nat} {l cs : List Value} (hs : Sat ro h (.own lo (some ⟨b, 0, none⟩) sz l :: R)) (ht : take? l o n = some cs) : readCells h ⟨b, o, none⟩ n = some cs := by
  simp only [readCells, (own_cells hs).2.2.1, ht]
theorem res_nil {e : Env} : resVals P e h [] = some [] := rfl
theorem res_tmp {e : Env} {t : Tmp} {v : Value} {rs : List ResultVar} {vs : List Value} (hg : e.get t = some v) (hr : resVals P e h rs = some vs) : resVals P e h (.tmp t :: rs) = some (v :: vs) := by
  simp only [resVals, hg, hr]
theorem res_cellA {e : Env} {a : Tmp} {t : TypeId} {ad : Addr} {n : Nat} {cs : List Value} {rs : List ResultVar} {vs : List Value} (hg : e.get a = some (.pointer (some ad))) (ha : isAgg? P t = some true) (hn : sizeOf? P t = some n) (hc : readCells h ad n = some cs) (hr : resVals P e h rs = some vs) : resVals P e h (.cell a t :: rs) = some (.agg cs.toArray :: vs) := by
  simp only [resVals, hg, ha, hn, hc, hr]
theorem res_cell {e : Env} {a : Tmp} {t : TypeId} {ad : Addr} {v : Value} {rs : List ResultVar} {vs : List Value} (hg : e.get a = some (.pointer (some ad))) (ha : isAgg? P t = some false) (hc : readCells h ad 1 = some [v]) (hr : resVals P e h rs = some vs) : resVals P e h (.cell a t :: rs) = some (v :: vs) := by
  simp only [resVals, hg, ha, hc, hr]
def outOf (h : Heap) : List Value → Out
  | [v] => .ok v h
  | vs => .ok (.tuple vs.toArray) h
theorem st_res {fn : Func} {e : Env} {vs : List Value} (hv : resVals P e h fn.results.toList = some vs) (hq : Q (outOf h vs)) : Q (resOf P fn e h) := by
  have : resOf P fn e h = outOf h vs := by
    unfold resOf
    split
    · rename_i v hx; rw [hv] at hx; cases hx; rfl
    · rename_i ws hn hx
      rw [hv] at hx; cases hx
      match vs, hn with
      | [], _ => rfl
      | [v], hn => exact (hn v rfl).elim
      | _ :: _ :: _, _ => rfl
    · rename_i hx; rw [hv] at hx; cases hx
  rw [this]; exact hq
theorem setp_len {α : Type} {l l' : List α} {i : Int} {v : α} (h : setp l i v = some l') : l.length = l'.length := by
  unfold setp at h
  split at h
  · cases h; rw [List.length_set]
  · cases h
theorem vsetp_len {α : Type} {n : Nat} {l l' : List α} {i : Int} {v : α} (h : vsetp n l i v = some l') : l.length = l'.length := by
  unfold vsetp at h
  split at h
  · cases h; rw [List.length_set]
  · cases h
theorem Sat.weakM {α : Type} {f : α → Value} {a : Option Addr} {x : List α} (hs : Sat ro h (.own lo a 1 (x.map f) :: R)) : Sat ro h (.row a x.length (x.map f) :: R) := by
  have := hs.weak
  rwa [List.length_map] at this
/-! ### Blocks that lie apart -/
theorem touch_slice (a : Option Addr) (n c : Nat) : touch (some (.slice a n c)) = some (blkA a) := by
  cases a with
  | none => rfl
  | some a => obtain ⟨b, o, s⟩ := a; cases s <;> rfl
theorem apartB_of {v w : Value} {x y : Option Nat} (hv : touch (some v) = some x) (hw : touch (some w) = some y) (hx : ∀ b, x = some b → y ≠ some b) : apartB (touch (some v)) (touch (some w)) = true := by
  rw [hv, hw]
  cases x with
  | none => cases y <;> rfl
  | some x => cases y with
    | none => rfl
    | some y => have := hx x rfl; simp only [ne_eq, Option.some.injEq] at this; simp [apartB]; omega
end Go.Abs

namespace Go.Abs
set_option linter.unusedSimpArgs false
set_option linter.unusedVariables false

/-! ### Plain facts about the pure texts -/
theorem bindp_of {α β : Type} {x : Option α} {a : α} {k : α → Option β} (h : x = some a) : bindp x k = k a := by rw [h]; rfl
@[simp] theorem bindp_s {α β : Type} (a : α) (k : α → Option β) : bindp (some a) k = k a := rfl
@[simp] theorem bindp_n {α β : Type} (k : α → Option β) : bindp none k = none := rfl
@[simp] theorem ifp_tt {β : Type} (x y : Option β) : ifp true x y = x := rfl
@[simp] theorem ifp_ff {β : Type} (x y : Option β) : ifp false x y = y := rfl
@[simp] theorem letJ_eq {α β : Type} (j : α) (k : α → β) : letJ j k = k j := rfl
theorem ifp_if {β : Type} {b : Bool} {p : Prop} [Decidable p] (h : b = decide p) (x y : Option β) : ifp b x y = if p then x else y := by
  subst h
  by_cases hp : p <;> simp [hp]
theorem wr64 {x : Int} (h0 : -(2 ^ 63) ≤ x) (h1 : x < 2 ^ 63) : IntKind.i64.wrap x = x := by rw [IntKind.wrap_i64]; omega
theorem wru8 {x : Int} (h0 : 0 ≤ x) (h1 : x < 256) : IntKind.u8.wrap x = x := by rw [IntKind.wrap_u8]; omega
theorem appp_ok {α : Type} {l x : List α} (h : l.length + x.length ≤ 2 ^ 40) : appp 1 l x = some (l ++ x) := by
  unfold appp; rw [if_pos ⟨by unfold bigLimit; omega, by unfold bigLimit; omega⟩]
theorem idxp_nat {α : Type} {l : List α} {i : Nat} (h : i < l.length) : idxp l (i : Int) = some l[i] := by
  unfold idxp
  rw [if_pos (by omega), Int.toNat_natCast, List.getElem?_eq_getElem h]
theorem idxp_int {α : Type} {l : List α} {j : Int} {i : Nat} (hj : j = i) (h : i < l.length) : idxp l j = some l[i] := by subst hj; exact idxp_nat h
theorem subp_nat {α : Type} {l : List α} {a b : Int} {i j : Nat} (ha : a = i) (hb : b = j) (h : i ≤ j) (h2 : j ≤ l.length) : subp l a b = some ((l.drop i).take (j - i)) := by
  subst ha hb
  unfold subp
  rw [if_pos ⟨by omega, by omega, by omega⟩]; simp
/-! Strings as lists of numbers -/
theorem bytp_inj {x y : ByteArray} (h : bytp x = bytp y) : x = y := by
  unfold bytp at h
  have h2 : x.data.toList = y.data.toList := by
    refine (List.map_inj_right (f := fun b : UInt8 => ((b.toNat : Nat) : Int)) fun a b hab => ?_).1 h
    have : a.toNat = b.toNat := Int.ofNat_inj.1 hab
    exact UInt8.toNat.inj this
  cases x; cases y; simp only at h2; congr; exact Array.toList_inj.1 h2
theorem bytp_append (x y : ByteArray) : bytp (x ++ y) = bytp x ++ bytp y := by simp [bytp]
theorem catp_ok {x y : ByteArray} (h : x.size + y.size < 2 ^ 40) : catp x y = some (x ++ y) := by
  unfold catp
  rw [if_neg (by have : IntKind.i64.max = 2 ^ 63 - 1 := by decide
                 omega)]
theorem bytp_size (x : ByteArray) : x.size = (bytp x).length := (bytp_len x).symm
theorem bytp_strp {l : List Int} (h : ∀ v ∈ l, 0 ≤ v ∧ v < 256) : bytp (strp l) = l := by
  unfold bytp strp
  simp only [List.map_map]
  conv => rhs; rw [← List.map_id l]
  refine List.map_congr_left fun v hv => ?_
  have := h v hv
  simp only [Function.comp_apply, UInt8.toNat_ofNat', id_eq]
  omega
theorem bytp_range {s : ByteArray} : ∀ v ∈ bytp s, 0 ≤ v ∧ v < 256 := by
  intro v hv
  unfold bytp at hv
  obtain ⟨b, _, rfl⟩ := List.mem_map.1 hv
  have := b.toNat_lt
  omega
end Go.Abs

namespace Go.Abs
open Go.RowKit Go.ChangeShapes
set_option linter.unusedSimpArgs false
set_option linter.unusedVariables false
variable {P : Program} {W : World} {μ : Mu} {h : Heap}

/-! ### Where a call begins: all that is known may only be read -/
structure Start (P : Program) (W : World) (μ : Mu) (h : Heap) : Prop where
  hr : HR P h.next W.heap.size W μ h W
  gl : P.globals.size ≤ h.next
theorem Start.base (hw : P.globals.size ≤ W.heap.size) : Start P W (mu0 P) (H0 P) := ⟨HR.start hw, Nat.le_refl _⟩
def muAdd (μ : Mu) (b : Nat) (l : Loc) : Mu := fun c => if c = b then some l else μ c
theorem Start.ext (hs : Start P W μ h) (l : Loc) : Ext μ (muAdd μ h.next l) := fun b l' hb => by
  have := hs.hr.dom b l' hb
  unfold muAdd; rw [if_neg (by omega)]; exact hb
/-- A row of the machine's that may be read. -/
theorem Start.add (hs : Start P W μ h) {cs : List Value} {blk off : Nat} {cc : Array Value} {t : TypeId} {fr : Nat × Nat} (hb : W.heap[blk]? = some (.cells cc t fr)) (hl : off + cs.length ≤ cc.size) (hv : ∀ (i : Nat) (v : Value), cs[i]? = some v → ∃ v', cc[off + i]? = some v' ∧ VR μ v v') :
    Start P W (muAdd μ h.next ⟨blk, off, 1, cc.size⟩) (h.push (.cells 1 cs)) := by
  have hx := hs.ext ⟨blk, off, 1, cc.size⟩
  have hr := hs.hr
  have hlt : blk < W.heap.size := (Array.getElem?_eq_some_iff.1 hb).1
  have split : ∀ b l, muAdd μ h.next ⟨blk, off, 1, cc.size⟩ b = some l → (b = h.next ∧ l = ⟨blk, off, 1, cc.size⟩) ∨ (b < h.next ∧ μ b = some l) := by
    intro b l hm
    unfold muAdd at hm
    split at hm
    · rename_i e; cases hm; exact .inl ⟨e, rfl⟩
    · exact .inr ⟨hr.dom b l hm, hm⟩
  refine ⟨⟨fun b l hm => ?_, fun b hb2 => ?_, Nat.le_refl _, fun g hg => ?_, fun b l o hm hg hd => ?_, fun b l hm _ => ?_, fun b l hm hb2 => ?_, fun b b' l l' hm _ hb2 => ?_, hr.below, hr.base, hr.gl⟩, by rw [Heap.next_push]; have := hs.gl; omega⟩
  · rw [Heap.next_push]; rcases split b l hm with ⟨rfl, _⟩ | ⟨h1, _⟩ <;> omega
  · rw [Heap.next_push] at hb2; rw [Heap.get_push, if_neg (by omega)]; exact hr.undom b (by omega)
  · obtain ⟨l, h1, h2⟩ := hr.glob g hg; exact ⟨l, hx g l h1, h2⟩
  · rcases split b l hm with ⟨rfl, rfl⟩ | ⟨h1, h2⟩
    · rw [Heap.get_push, if_pos rfl] at hg
      cases hg
      refine ⟨_, hb, rfl, rfl, hl, fun i v hi => ?_, fun ho => ?_⟩
      · obtain ⟨v', a, c⟩ := hv i v hi; exact ⟨v', a, c.mono hx⟩
      · rw [Heap.next_push] at ho; omega
    · rw [Heap.get_push, if_neg (by omega)] at hg
      obtain ⟨obj, a, c⟩ := hr.blk b l o h2 hg hd
      have c2 := c.mono hx
      have e1 : ¬ h.next ≤ b := by omega
      have e2 : ¬ (h.push (.cells 1 cs)).next ≤ b := by rw [Heap.next_push]; omega
      refine ⟨obj, a, ?_⟩
      have : (h.next ≤ b) = ((h.push (.cells 1 cs)).next ≤ b) := by simp only [e1, e2]
      rwa [this] at c2
  · rcases split b l hm with ⟨rfl, rfl⟩ | ⟨h1, h2⟩
    · exact hlt
    · exact hr.low b l h2 h1
  · rw [Heap.next_push] at hb2; rcases split b l hm with ⟨rfl, _⟩ | ⟨h1, _⟩ <;> omega
  · rw [Heap.next_push] at hb2; rcases split b l hm with ⟨rfl, _⟩ | ⟨h1, _⟩ <;> omega

/-! A variable of the program's own: a table of numbers. -/
def H1 (P : Program) (g : Nat) (cs : List Value) : Heap := (H0 P).put g (.cells 1 cs)
theorem Start.table {g : Nat} {cs : List Value} {cc : Array Value} {t : TypeId} {fr : Nat × Nat} (hw : P.globals.size ≤ W.heap.size) (hg : g < P.globals.size) (hb : W.heap[g]? = some (.cells cc t fr)) (hl : cs.length ≤ cc.size) (hv : ∀ (μ : Mu) (i : Nat) (v : Value), cs[i]? = some v → ∃ v', cc[i]? = some v' ∧ VR μ v v') :
    Start P W (muAdd (mu0 P) g ⟨g, 0, 1, cc.size⟩) (H1 P g cs) := by
  have hr := HR.start (P := P) hw
  have hn : (H1 P g cs).next = P.globals.size := rfl
  have split : ∀ b l, muAdd (mu0 P) g ⟨g, 0, 1, cc.size⟩ b = some l → (b = g ∧ l = ⟨g, 0, 1, cc.size⟩) ∨ (b ≠ g ∧ mu0 P b = some l) := by
    intro b l hm
    unfold muAdd at hm
    split at hm
    · rename_i e; cases hm; exact .inl ⟨e, rfl⟩
    · rename_i e; exact .inr ⟨e, hm⟩
  refine ⟨⟨fun b l hm => ?_, fun b hb2 => ?_, Nat.le_refl _, fun k hk => ?_, fun b l o hm hgt hd => ?_, fun b l hm _ => ?_, fun b l hm hb2 => ?_, fun b b' l l' hm _ hb2 => ?_, hr.below, hr.base, hw⟩, Nat.le_refl _⟩
  · rw [hn]; rcases split b l hm with ⟨rfl, _⟩ | ⟨_, h2⟩
    · exact hg
    · exact hr.dom b l h2
  · rw [hn] at hb2
    unfold H1; rw [Heap.get_put, if_neg (by omega)]; rfl
  · by_cases e : k = g
    · subst e; exact ⟨_, by unfold muAdd; rw [if_pos rfl], rfl, rfl⟩
    · obtain ⟨l, h1, h2⟩ := hr.glob k hk; exact ⟨l, by unfold muAdd; rw [if_neg e]; exact h1, h2⟩
  · unfold H1 at hgt
    rcases split b l hm with ⟨rfl, rfl⟩ | ⟨h1, h2⟩
    · rw [Heap.get_put, if_pos rfl] at hgt
      cases hgt
      refine ⟨_, hb, rfl, rfl, by simpa using hl, fun i v hi => ?_, fun ho => ?_⟩
      · obtain ⟨v', a, c⟩ := hv _ i v hi; exact ⟨v', by simpa using a, c⟩
      · rw [hn] at ho; omega
    · rw [Heap.get_put, if_neg h1] at hgt
      simp [H0, Heap.get, T.get] at hgt
  · rcases split b l hm with ⟨rfl, rfl⟩ | ⟨h1, h2⟩
    · exact Nat.lt_of_lt_of_le hg hw
    · have h3 := hr.dom b l h2
      exact hr.low b l h2 h3
  · rw [hn] at hb2
    rcases split b l hm with ⟨rfl, rfl⟩ | ⟨h1, h2⟩
    · omega
    · have := hr.dom b l h2; have : b < P.globals.size := this; omega
  · rw [hn] at hb2
    rcases split b l hm with ⟨rfl, rfl⟩ | ⟨h1, h2⟩
    · omega
    · have := hr.dom b l h2; have : b < P.globals.size := this; omega
theorem H1_sat {g : Nat} {cs : List Value} {n : Nat} (hg : g < P.globals.size) (hn : cs.length ≤ n) (ho : cs.all oneCell = true) : Sat (H1 P g cs).next (H1 P g cs) [.row (some ⟨g, 0, none⟩) n cs] := by
  refine ⟨Nat.le_refl _, fun e he => ?_, by simp⟩
  simp only [List.mem_singleton] at he
  subst he
  exact ⟨hn, .inr ⟨g, 0, cs, rfl, hg, by unfold H1; rw [Heap.get_put, if_pos rfl], by simp, by simp, ho⟩⟩
theorem H0_sat : Sat (H0 P).next (H0 P) [] := ⟨Nat.le_refl _, fun e he => (by simp at he), by simp⟩

theorem Ent.apart_row {a : Option Addr} {c : Nat} {l : List Value} {x : Ent} (hx : x.mine = false) : (Ent.row a c l).Apart x := fun hm => by
  have : (Ent.row a c l).mine = false := rfl
  rw [this, hx] at hm; cases hm
/-- What a call begins with reads on behind a new row. -/
theorem Sat.add {R : List Ent} (hs : Sat h.next h R) (hR : ∀ e ∈ R, e.mine = false) {cs : List Value} (ho : cs.all oneCell = true) {l : List Value} {c : Nat} (hl : l = cs.take l.length) (hc : l.length ≤ c) (hcs : l.length ≤ cs.length) :
    Sat (h.push (.cells 1 cs)).next (h.push (.cells 1 cs)) (.row (some ⟨h.next, 0, none⟩) c l :: R) := by
  have h1 : Sat h.next (h.push (.cells 1 cs)) R := hs.keep (Keep.push (fun _ => False) h _) fun _ _ _ _ hf => hf
  have h2 : Sat h.next (h.push (.cells 1 cs)) (.row (some ⟨h.next, 0, none⟩) c l :: R) := h1.cons ⟨hc, .inr ⟨h.next, 0, cs, rfl, by rw [Heap.next_push]; omega, by rw [Heap.get_push, if_pos rfl], by omega, by simpa using hl.symm, by
    rw [hl, List.all_eq_true]
    rw [List.all_eq_true] at ho
    exact fun x hx => ho x (List.mem_of_mem_take hx)⟩⟩ fun x hx => Ent.apart_row (hR x hx)
  exact ⟨Nat.le_refl _, h2.all, h2.apart⟩

theorem lits_int {H : Type} (k : IntKind) (zs : List Int) : (lits k zs : List (DataW H)) = zs.map fun z => .lit (.int k z) := rfl

/-- A slice of integers among the arguments. -/
theorem Start.ints {H : Type} {enc : TypeId × Value → H} {t e : TypeId} {k : IntKind} {fuel : Nat} {v : Value} {x : DataW H × List MemPlace} (hs : Start P W μ h) {R : List Ent} (hsat : Sat h.next h R) (hR : ∀ e ∈ R, e.mine = false)
    (ht : P.underlying t = some (.slice e)) (he : P.underlying e = some (.int k)) (hc : P.cellsOf e = 1) (hx : DataW.trod enc P W 0 (fun _ => true) true fuel t [v] = some x) :
    ∃ (μ' : Mu) (h' : Heap) (a : Option Addr) (c : Nat) (zs : List Int), Start P W μ' h' ∧ Ext μ μ' ∧ VR μ' (.slice a zs.length c) v ∧ Sat h'.next h' (.row a c (zs.map (Value.int k)) :: R) ∧ (∀ n ∈ zs, (Lit.int k n).wf = true) := by
  rcases open_ints ht he hc hx with ⟨h0, _⟩ | ⟨a, len, cap, zs, h0, _, hlc, _, hlen, _, hcell, hwf⟩
  · cases h0
    exact ⟨μ, h, none, 0, [], hs, Ext.refl _, .nils, hsat.nilRow 0, by simp⟩
  · cases h0
    simp only [if_true] at hlen
    by_cases hz : cap = 0
    · have hl0 : len = 0 := by omega
      subst hz hl0
      refine ⟨μ, h, some ⟨0, 0, some 0⟩, 0, [], hs, Ext.refl _, .empty a 0, ?_, by simp⟩
      exact hsat.cons ⟨by simp, .inl ⟨rfl, .inr ⟨0, rfl⟩⟩⟩ fun x hx => Ent.apart_row (hR x hx)
    · have h1 := hcell 0 (by omega)
      unfold World.cell? at h1
      cases hb : W.heap[(a.add 0).block]? with
      | none => rw [hb] at h1; cases h1
      | some o =>
        rw [hb] at h1
        cases o with
        | cells cc t fr =>
          obtain ⟨ab, ao, asp⟩ := a
          have hsp : asp = none := by
            simp only [Addr.add] at h1
            cases asp with
            | none => rfl
            | some s => simp at h1
          subst hsp
          rw [addr_add] at hb
          have hread : ∀ i, i < zs.length → cc[ao + i]? = some (.int k (zs.getD i 0)) := by
            intro i hi
            have := hcell i hi
            rw [addr_add] at this
            unfold World.cell? at this
            simp only [hb] at this
            simpa using this
          have hmap : ∀ i v, (zs.map (Value.int k))[i]? = some v → i < zs.length ∧ v = .int k (zs.getD i 0) := by
            intro i v hi
            rw [List.getElem?_map] at hi
            cases hz2 : zs[i]? with
            | none => rw [hz2] at hi; cases hi
            | some z =>
              rw [hz2] at hi
              simp only [Option.map_some, Option.some.injEq] at hi
              obtain ⟨h3, h4⟩ := List.getElem?_eq_some_iff.1 hz2
              exact ⟨h3, by rw [← hi, ← getD_eq hz2]⟩
          have hfit : ao + zs.length ≤ cc.size := by
            have := hread (zs.length - 1) (by omega)
            have := (Array.getElem?_eq_some_iff.1 this).1
            omega
          have hst := hs.add (cs := zs.map (Value.int k)) hb (by rw [List.length_map]; exact hfit) fun i v hi => by
            obtain ⟨h3, rfl⟩ := hmap i v hi
            exact ⟨_, hread i h3, .int _ _⟩
          refine ⟨_, _, some ⟨h.next, 0, none⟩, cap, zs.take len, hst, hs.ext _, ?_, ?_, fun n hn => hwf n (List.mem_of_mem_take hn)⟩
          · have hl2 : (zs.take len).length = len := by rw [List.length_take]; omega
            rw [hl2]
            have := VR.slice (μ := muAdd μ h.next ⟨ab, ao, 1, cc.size⟩) h.next 0 len cap cap ⟨ab, ao, 1, cc.size⟩ (by unfold muAdd; rw [if_pos rfl]) hlc (Nat.le_refl _) (by simp only; omega)
            simpa using this
          · refine Sat.add hsat hR (all_map (fun _ => rfl) _) ?_ ?_ ?_
            · rw [List.length_map, List.length_take, ← List.map_take]
              congr 1
              rw [Nat.min_eq_left (by omega)]
            · rw [List.length_map, List.length_take]; omega
            · rw [List.length_map, List.length_map, List.length_take]; omega
        | _ => simp at h1
where
  getD_eq {zs : List Int} {i : Nat} {z : Int} (h : zs[i]? = some z) : zs.getD i 0 = z := by simp [List.getD, h]
end Go.Abs

namespace Go.Abs
open Go.RowKit Go.ChangeShapes
set_option linter.unusedSimpArgs false
set_option linter.unusedVariables false
variable {P : Program} {W W' : World}

/-! ### An oracle for a closed function -/
def closedOra (f : FuncId) (v : Value) : Ora := fun ro f' args h => match f' == f && args.isEmpty with
  | true => some (.ok v h)
  | false => none
theorem closedOra_ok {f : FuncId} {v : Value} (hc : ∀ {ro0 B0 : Nat} {w0 w : World} {μ : Mu} {h : Heap}, HR P ro0 B0 w0 μ h w → Calls P f #[] w (Ret P ro0 B0 w0 μ h v)) : OraOk P (closedOra f v) := by
  refine ⟨fun ro f' args h r hor hen ro0 B0 w0 μ w args' hro hr ha => ?_, fun ro f' args h r hor => ?_⟩
  · unfold closedOra at hor
    split at hor
    · rename_i hff
      simp only [Bool.and_eq_true, beq_iff_eq, List.isEmpty_iff] at hff
      obtain ⟨rfl, rfl⟩ := hff
      cases hor
      cases args' with | mk l =>
      cases ha
      exact hc hr
    · cases hor
  · unfold closedOra at hor
    split at hor
    · cases hor; exact Fr.refl _ _
    · cases hor

/-! ### What the statements say behind the call -/
theorem Below.trodAll {H : Type} {enc : TypeId × Value → H} (hl : laidOutB P = true) (hb : Below W.heap.size W W') : ∀ {ts : List TypeId} {vs : List Value} {ds : List (DataW H)} {ps : List MemPlace}, (∀ t ∈ ts, P.readableRec t = true ∧ t < P.types.size) → (∀ x ∈ ps, x.block < W.heap.size) →
    DataW.TrodAll enc P W 0 (fun _ => true) true ts vs ds ps → DataW.TrodAll enc P W' 0 (fun b => decide (b < W.heap.size)) true ts vs ds ps
  | [], vs, ds, ps, _, _, h => by
    obtain ⟨rfl, rfl, rfl⟩ := trodAll_nil h
    exact trodAll_mk0
  | t :: ts, vs, ds, ps, ht, hp, h => by
    obtain ⟨v, vs', d, ds', p, q, rfl, rfl, rfl, h0, h1⟩ := trodAll_cons h
    obtain ⟨r1, r2⟩ := ht t (by simp)
    exact trodAll_cons_mk (RowKit.Below.trod hl r1 r2 h0 hb fun x hx => hp x (List.mem_append_left _ hx)) (Below.trodAll hl hb (fun t' h' => ht t' (by simp [h'])) (fun x hx => hp x (List.mem_append_right _ hx)) h1)
theorem post_true {H : Type} {enc : TypeId × Value → H} {f : Func} {s : ChangeSpec} {tb : TypeId} {args : Array Value} {ds gs : List (DataW H)} {before : List MemPlace} (hl : laidOutB P = true) (hts : ∀ t ∈ f.params.toList, P.readableRec t = true ∧ t < P.types.size) (hr : f.resultTypes = #[tb]) (hb : P.underlying tb = some .bool) (hv : s.vars = [])
    (hW : DataW.Whole enc P f.params.toList s.vars false W args.toList ds gs before) (hfn : s.fn H (ds ++ gs) = { results := [.lit (.bool true)], args := ds }) (hbel : Below W.heap.size W W') :
    s.post enc P f false true false false W args (.bool true) W' := by
  have hW' := hW
  obtain ⟨p, q, hA, hV, rfl, hfz, hnd⟩ := hW
  rw [hv] at hV
  obtain ⟨rfl, rfl⟩ := trodVars_none hV
  have hlt : ∀ x ∈ p, x.block < W.heap.size := fun x hx => by simpa using hW'.lt x (List.mem_append_left _ hx)
  refine ⟨ds, [], p ++ [], [], p, [], hW', ?_, ?_, ?_, hbel.frame _, fun h => by cases h⟩
  · rw [hfn, hr]
    exact trodAll_mk1 (shut_bool hb true)
  · rw [hfn]
    exact Below.trodAll hl hbel hts hlt hA
  · rw [hfn, hv]; rfl
theorem Ret.below {B0 ro0 : Nat} {w0 w' : World} {μ : Mu} {h : Heap} {e : Ending} (he : Ret P ro0 B0 w0 μ h (.bool true) e w') : e = .returned (.bool true) ∧ Below B0 w0 w' := by
  cases e with
  | returned v =>
    obtain ⟨μ', _, hr, hv⟩ := he
    cases hv
    exact ⟨rfl, hr.below⟩
  | _ => exact he.elim
end Go.Abs

namespace Go.Abs
set_option linter.unusedSimpArgs false
set_option linter.unusedVariables false

/-- The call of a function that is a value. -/
def callFO (P : Program) (call : CT) (ro : Nat) (v : Value) (args : List Value) (h : Heap) : Out :=
  match v with
  | .func (.func g) first cap => if enterB P g then call ro g (first.toList ++ args ++ cap.toList) h else .fail
  | _ => .fail
def pushMJ {β : Type} (h : Heap) (k : Heap → β) : β := k (h.push (.map []))
end Go.Abs
namespace Go.Abs
variable {P : Program} {ora : Ora}
theorem ifK_le {b : Bool} {x y r : Out} (ht : b = true → LeO x r) (hf : b = false → LeO y r) : LeO (ifK b x y) r := by cases b <;> first | exact hf rfl | exact ht rfl
theorem good_le {c d : CT} (hd : Good1 P ora d) (h : ∀ ro f args g, LeO (c ro f args g) (d ro f args g)) : Good1 P ora c := fun ro f args g hn => by
  rcases h ro f args g with h1 | h1
  · exact absurd h1 hn
  · have := hd ro f args g (by rw [← h1]; exact hn)
    rwa [← h1] at this
theorem good_call {c : CT} (hd : Good1 P ora c) {ro : Nat} {f : FuncId} {args : List Value} {h : Heap} {v : Value} {h' : Heap} (he : c ro f args h = .ok v h') : ∃ n, call P ora n ro f args h = .ok v h' := by
  obtain ⟨r, h1, h2, n, h3⟩ := hd ro f args h (by rw [he]; simp)
  exact ⟨n, by rw [h3 n (Nat.le_refl _), h2, he]⟩
end Go.Abs

namespace Go.Abs
open Go.RowKit Go.ChangeShapes
set_option linter.unusedSimpArgs false
set_option linter.unusedVariables false
variable {P : Program} {W : World} {μ : Mu} {h : Heap}
/-- A row of cells among the arguments. -/
theorem Start.cellsOf {α : Type} {f : α → Value} {z0 : α} (hf : ∀ x, oneCell (f x) = true) (hv : ∀ (μ : Mu) x, VR μ (f x) (f x)) (hs : Start P W μ h) {R : List Ent} (hsat : Sat h.next h R) (hR : ∀ e ∈ R, e.mine = false)
    {a : Addr} {len cap : Nat} {zs : List α} (hlc : len ≤ cap) (hlen : zs.length = cap) (hcell : ∀ i, i < zs.length → W.cell? (a.add i) = some (f (zs.getD i z0))) :
    ∃ (μ' : Mu) (h' : Heap) (a' : Option Addr), Start P W μ' h' ∧ Ext μ μ' ∧ VR μ' (.slice a' (zs.take len).length cap) (.slice (some a) len cap) ∧ Sat h'.next h' (.row a' cap ((zs.take len).map f) :: R) := by
  by_cases hz : cap = 0
  · have hl0 : len = 0 := by omega
    subst hz hl0
    refine ⟨μ, h, some ⟨0, 0, some 0⟩, hs, Ext.refl _, by simpa using VR.empty a 0, ?_⟩
    exact hsat.cons ⟨by simp, .inl ⟨by simp, .inr ⟨0, rfl⟩⟩⟩ fun x hx => Ent.apart_row (hR x hx)
  · have h1 := hcell 0 (by omega)
    unfold World.cell? at h1
    cases hb : W.heap[(a.add 0).block]? with
    | none => rw [hb] at h1; cases h1
    | some o =>
      rw [hb] at h1
      cases o with
      | cells cc t fr =>
        obtain ⟨ab, ao, asp⟩ := a
        have hsp : asp = none := by
          simp only [Addr.add] at h1
          cases asp with
          | none => rfl
          | some s => simp at h1
        subst hsp
        rw [addr_add] at hb
        have hread : ∀ i, i < zs.length → cc[ao + i]? = some (f (zs.getD i z0)) := by
          intro i hi
          have := hcell i hi
          rw [addr_add] at this
          unfold World.cell? at this
          simp only [hb] at this
          simpa using this
        have hmap : ∀ i v, (zs.map f)[i]? = some v → i < zs.length ∧ v = f (zs.getD i z0) := by
          intro i v hi
          rw [List.getElem?_map] at hi
          cases hz2 : zs[i]? with
          | none => rw [hz2] at hi; cases hi
          | some z =>
            rw [hz2] at hi
            simp only [Option.map_some, Option.some.injEq] at hi
            obtain ⟨h3, h4⟩ := List.getElem?_eq_some_iff.1 hz2
            refine ⟨h3, by rw [← hi, List.getD_eq_getElem?_getD, hz2]; rfl⟩
        have hfit : ao + zs.length ≤ cc.size := by
          have := hread (zs.length - 1) (by omega)
          have := (Array.getElem?_eq_some_iff.1 this).1
          omega
        have hst := hs.add (cs := zs.map f) hb (by rw [List.length_map]; exact hfit) fun i v hi => by
          obtain ⟨h3, rfl⟩ := hmap i v hi
          exact ⟨_, hread i h3, hv _ _⟩
        refine ⟨_, _, some ⟨h.next, 0, none⟩, hst, hs.ext _, ?_, ?_⟩
        · have hl2 : (zs.take len).length = len := by rw [List.length_take]; omega
          rw [hl2]
          have := VR.slice (μ := muAdd μ h.next ⟨ab, ao, 1, cc.size⟩) h.next 0 len cap cap ⟨ab, ao, 1, cc.size⟩ (by unfold muAdd; rw [if_pos rfl]) hlc (Nat.le_refl _) (by simp only; omega)
          simpa using this
        · refine Sat.add hsat hR (all_map hf _) ?_ ?_ ?_
          · rw [List.length_map, List.length_take, ← List.map_take]
            congr 1
            rw [Nat.min_eq_left (by omega)]
          · rw [List.length_map, List.length_take]; omega
          · rw [List.length_map, List.length_map, List.length_take]; omega
      | _ => simp at h1
theorem Start.bools {H : Type} {enc : TypeId × Value → H} {t e : TypeId} {fuel : Nat} {v : Value} {x : DataW H × List MemPlace} (hs : Start P W μ h) {R : List Ent} (hsat : Sat h.next h R) (hR : ∀ e ∈ R, e.mine = false)
    (ht : P.underlying t = some (.slice e)) (he : P.underlying e = some .bool) (hc : P.cellsOf e = 1) (hx : DataW.trod enc P W 0 (fun _ => true) true fuel t [v] = some x) :
    ∃ (μ' : Mu) (h' : Heap) (a : Option Addr) (c : Nat) (zs : List Bool), Start P W μ' h' ∧ Ext μ μ' ∧ VR μ' (.slice a zs.length c) v ∧ Sat h'.next h' (.row a c (zs.map Value.bool) :: R) := by
  rcases Go.Deep.open_bools ht he hc hx with ⟨h0, _⟩ | ⟨a, len, cap, B, h0, _, hlc, _, _, hcell⟩
  · cases h0
    exact ⟨μ, h, none, 0, [], hs, Ext.refl _, .nils, hsat.nilRow 0⟩
  · cases h0
    obtain ⟨μ', h', a', g1, g2, g3, g4⟩ := Start.cellsOf (f := Value.bool) (z0 := false) (zs := (List.range cap).map B) (fun _ => rfl) (fun _ b => .bool b) hs hsat hR hlc (by simp) fun i hi => by
      simp only [List.length_map, List.length_range] at hi
      rw [hcell i hi, List.getD_eq_getElem?_getD, List.getElem?_map, List.getElem?_range hi]; rfl
    exact ⟨μ', h', a', cap, _, g1, g2, g3, g4⟩
end Go.Abs
namespace Go.Abs
variable {P : Program} {ro0 B0 : Nat} {w0 w : World} {μ : Mu} {h : Heap}
/-- A call with plain arguments, run once by the kernel, in any heap. -/
theorem closed_okA {ora : Ora} (hm : P.follows .mixedOrders = true) (hng : NoNG P) (ho : OraOk P ora) {n : Nat} {f : FuncId} {args : List Value} {args' : Array Value} {v : Value} {h1 : Heap} (hp : plainB 8 v = true) (hen : enterB P f = true) (hargs : args.all (plainB 8) = true)
    (hc : call P ora n P.globals.size f args (H0 P) = .ok v h1) (hr : HR P ro0 B0 w0 μ h w) (ha : VRs μ args args'.toList) : Calls P f args' w (Ret P ro0 B0 w0 μ h v) := by
  have hsz : P.globals.size ≤ w.heap.size := Nat.le_trans hr.gl (Nat.le_trans hr.base hr.below.size)
  rw [List.all_eq_true] at hargs
  have e : args'.toList = args := ha.eq_of fun x hx x' hv => VR.plain_eq 8 x x' (hargs x hx) hv
  have := call_ok hm hng ho n P.globals.size f args (H0 P) hen P.globals.size w.heap.size w (mu0 P) w args' (Nat.le_refl _) (HR.start hsz) (by rw [e]; exact VRs.plain_of fun x hx => VR.plain 8 x (hargs x hx))
  rw [hc] at this
  refine Calls.mono this fun e w' he => ?_
  cases e with
  | returned v' =>
    obtain ⟨μ', h2, h3, h4⟩ := he
    refine ⟨μ, Ext.refl _, hr.above h3.below, ?_⟩
    rw [VR.plain_eq 8 v v' hp h4]
    exact VR.plain 8 v hp
  | _ => exact he.elim
end Go.Abs
