/-
  Stuff and Unstuff, as the interpreter runs them, written out; no statement of the seat is proved in this file.
-/
import Derived.Test.YtfadfpcelhdfbaaDoorProg
import Derived.KernelRfl
import Derived.Test.YtfadfpcelhdfbaaDoorAbsG
open Go Go.Abs Go.Proofs
set_option maxRecDepth 100000
set_option linter.unusedVariables false
namespace Go.Proofs.YtfadfpcelhdfbaaDoor

/-! ### barscan/barscanref01.Ints: function 22 -/

noncomputable def F22.J6 (call : CT) (lf ro : Nat) (kb4 : (Option Addr) → Nat → Nat → (Option Addr) → Nat → Nat → Int → Heap → Out) (a8 : Option Addr) (l8 : Nat) (c8 : Nat) (a9 : Option Addr) (l9 : Nat) (c9 : Nat) (n10 : Int) (h11 : Heap) : Out :=
  bindN (idxO Tryd.prog 35 (.slice a8 l8 c8) (.int .i64 n10) h11) fun v82 h83 =>
  bindN (loadO Tryd.prog 3 v82 h83) fun v84 h85 =>
  intK .i64 v84 fun n86 =>
  bindN (idxO Tryd.prog 35 (.slice a9 l9 c9) (.int .i64 n10) h85) fun v87 h88 =>
  bindN (loadO Tryd.prog 3 v87 h88) fun v89 h90 =>
  intK .i64 v89 fun n91 =>
  ifK (n86 != n91) (Out.ok (.bool false) h90) (kb4 a8 l8 c8 a9 l9 c9 (IntKind.i64.wrap (n10 + 1)) h90)

noncomputable def F22.PJ6 (kb : (Option Addr) → Nat → Nat → (Option Addr) → Nat → Nat → Int → Heap → Out) (e : Env) (h : Heap) : Out :=
  getK (e.get 0) fun w0 =>
  sliceK w0 fun a92 l92 c92 =>
  getK (e.get 1) fun w1 =>
  sliceK w1 fun a93 l93 c93 =>
  getK (e.get 5) fun w5 =>
  intK .i64 w5 fun n94 =>
  kb a92 l92 c92 a93 l93 c93 n94 h

noncomputable def F22.L4 (call : CT) (lf ro : Nat) : Nat → (Option Addr) → Nat → Nat → (Option Addr) → Nat → Nat → Int → Heap → Out
  | 0, _, _, _, _, _, _, _, _ => .fail
  | n + 1, a4, l4, c4, a5, l5, c5, n6, h7 =>
  ifK (decide (n6 < (l4 : Int))) (F22.J6 call lf ro (F22.L4 call lf ro n) a4 l4 c4 a5 l5 c5 n6 h7) (Out.ok (.bool true) h7)

noncomputable def F22.P4 (kb : (Option Addr) → Nat → Nat → (Option Addr) → Nat → Nat → Int → Heap → Out) (e : Env) (h : Heap) : Out :=
  getK (e.get 0) fun w0 =>
  sliceK w0 fun a95 l95 c95 =>
  getK (e.get 1) fun w1 =>
  sliceK w1 fun a96 l96 c96 =>
  getK (e.get 5) fun w5 =>
  intK .i64 w5 fun n97 =>
  kb a95 l95 c95 a96 l96 c96 n97 h

noncomputable def F22.J3 (call : CT) (lf ro : Nat) (a1 : Option Addr) (l1 : Nat) (c1 : Nat) (a2 : Option Addr) (l2 : Nat) (c2 : Nat) (h3 : Heap) : Out :=
  F22.L4 call lf ro lf a1 l1 c1 a2 l2 c2 0 h3

noncomputable def F22.PJ3 (kb : (Option Addr) → Nat → Nat → (Option Addr) → Nat → Nat → Heap → Out) (e : Env) (h : Heap) : Out :=
  getK (e.get 0) fun w0 =>
  sliceK w0 fun a98 l98 c98 =>
  getK (e.get 1) fun w1 =>
  sliceK w1 fun a99 l99 c99 =>
  kb a98 l98 c98 a99 l99 c99 h

noncomputable def F22.t (call : CT) (lf ro : Nat) (ax0 : Option Addr) (lx0 : Nat) (cx0 : Nat) (ax1 : Option Addr) (lx1 : Nat) (cx1 : Nat) (h : Heap) : Out :=
  ifK ((lx0 : Int) != (lx1 : Int)) (Out.ok (.bool false) h) (F22.J3 call lf ro ax0 lx0 cx0 ax1 lx1 cx1 h)

noncomputable def F22.Ht (call : CT) (lf ro : Nat) (i : Nat) (e : Env) (h : Heap) : Out := ifK (i == 4) (F22.P4 (F22.L4 call lf ro lf) e h) (.fail)
noncomputable def F22.Ut (call : CT) (lf ro : Nat) (i : Nat) : Option (Env → Heap → Out) := ifJ (i == 3) (some (F22.PJ3 (F22.J3 call lf ro))) (none)

noncomputable def F22.H4 (call : CT) (lf ro : Nat) (kb4 : (Option Addr) → Nat → Nat → (Option Addr) → Nat → Nat → Int → Heap → Out) (i : Nat) (e : Env) (h : Heap) : Out := ifK (i == 4) (F22.P4 (F22.L4 call lf ro lf) e h) (.fail)
noncomputable def F22.U4 (call : CT) (lf ro : Nat) (kb4 : (Option Addr) → Nat → Nat → (Option Addr) → Nat → Nat → Int → Heap → Out) (i : Nat) : Option (Env → Heap → Out) := ifJ (i == 6) (some (F22.PJ6 (F22.J6 call lf ro kb4))) (ifJ (i == 3) (some (F22.PJ3 (F22.J3 call lf ro))) (none))

noncomputable def F22.C4 (call : CT) (lf ro : Nat) : COut → Out := blockK 0 (seqH Tryd.prog call ro (F22.Ht call lf ro) (F22.Ut call lf ro) (sub (codeOf Tryd.f22) [true, true, true]) (endK Tryd.prog Tryd.f22))

noncomputable def F22.K4 (call : CT) (lf ro : Nat) : COut → Out := blockK 0 (seqK Tryd.prog call lf ro (sub (codeOf Tryd.f22) [true, true, true]) (endK Tryd.prog Tryd.f22))

noncomputable def F22.CJ3 (call : CT) (lf ro : Nat) : COut → Out := endK Tryd.prog Tryd.f22

noncomputable def F22.KJ3 (call : CT) (lf ro : Nat) : COut → Out := endK Tryd.prog Tryd.f22

noncomputable def F22.CJ6 (call : CT) (lf ro : Nat) (kb4 : (Option Addr) → Nat → Nat → (Option Addr) → Nat → Nat → Int → Heap → Out) : COut → Out := outK (F22.P4 kb4) (fun i e h => F22.C4 call lf ro (.exit i e h)) (fun e h => F22.C4 call lf ro (.ret e h))

noncomputable def F22.KJ6 (call : CT) (lf ro : Nat) (kb4 : (Option Addr) → Nat → Nat → (Option Addr) → Nat → Nat → Int → Heap → Out) : COut → Out := outK (F22.P4 kb4) (fun i e h => F22.C4 call lf ro (.exit i e h)) (fun e h => F22.C4 call lf ro (.ret e h))

theorem F22.RJ6 (call : CT) (lf ro : Nat) (kb4 : (Option Addr) → Nat → Nat → (Option Addr) → Nat → Nat → Int → Heap → Out) (f : Nat → Option Value) (a8 : Option Addr) (l8 : Nat) (c8 : Nat) (a9 : Option Addr) (l9 : Nat) (c9 : Nat) (n10 : Int) (h11 : Heap) :
    execH Tryd.prog call ro (F22.H4 call lf ro kb4) (F22.U4 call lf ro kb4) (sub (codeOf Tryd.f22) [true, true, false, true, false, false, true]) (EF 26 (updF (updF (updF f 0 (some (.slice a8 l8 c8))) 1 (some (.slice a9 l9 c9))) 5 (some (.int .i64 n10)))) h11 (F22.CJ6 call lf ro kb4) = F22.J6 call lf ro kb4 a8 l8 c8 a9 l9 c9 n10 h11 := by kernel_rfl

theorem F22.CKJ6 (call : CT) (lf ro : Nat) (kb4 : (Option Addr) → Nat → Nat → (Option Addr) → Nat → Nat → Int → Heap → Out) : KLe 26 (F22.CJ6 call lf ro kb4) (F22.KJ6 call lf ro kb4) :=
  (KLe.refl _)

theorem F22.BJ6 (call : CT) (lf ro : Nat) (kb4 : (Option Addr) → Nat → Nat → (Option Addr) → Nat → Nat → Int → Heap → Out) : ∀ e h, Shaped 26 e → LeO (F22.PJ6 (F22.J6 call lf ro kb4) e h) (execK Tryd.prog call lf ro (sub (codeOf Tryd.f22) [true, true, false, true, false, false, true]) e h (F22.KJ6 call lf ro kb4)) := by
    rintro e h ⟨f, rfl⟩
    unfold F22.PJ6
    refine getK_le fun w0 g0 => ?_
    rw [EF_get (by decide)] at g0
    refine sliceK_le fun a92 l92 c92 z100 => ?_
    subst z100
    refine getK_le fun w1 g1 => ?_
    rw [EF_get (by decide)] at g1
    refine sliceK_le fun a93 l93 c93 z101 => ?_
    subst z101
    refine getK_le fun w5 g5 => ?_
    rw [EF_get (by decide)] at g5
    refine intK_le fun n94 z102 => ?_
    subst z102
    have hr := F22.RJ6 call lf ro kb4 f a92 l92 c92 a93 l93 c93 n94 h
    rw [updF_same g0, updF_same g1, updF_same g5] at hr
    exact cut_le (H := (F22.H4 call lf ro kb4)) (J := (F22.U4 call lf ro kb4)) (F22.CKJ6 call lf ro kb4) (hd_free rfl) hr

theorem F22.R4 (call : CT) (lf ro : Nat) (n : Nat) (f : Nat → Option Value) (a4 : Option Addr) (l4 : Nat) (c4 : Nat) (a5 : Option Addr) (l5 : Nat) (c5 : Nat) (n6 : Int) (h7 : Heap) :
    execH Tryd.prog call ro (F22.H4 call lf ro (F22.L4 call lf ro n)) (F22.U4 call lf ro (F22.L4 call lf ro n)) (sub (codeOf Tryd.f22) [true, true, false, true, false, false]) (EF 26 (updF (updF (updF f 0 (some (.slice a4 l4 c4))) 1 (some (.slice a5 l5 c5))) 5 (some (.int .i64 n6)))) h7 (outK (F22.P4 (F22.L4 call lf ro n)) (fun i e h => F22.C4 call lf ro (.exit i e h)) (fun e h => F22.C4 call lf ro (.ret e h))) = F22.L4 call lf ro (n + 1) a4 l4 c4 a5 l5 c5 n6 h7 := by kernel_rfl

theorem F22.CK4 (call : CT) (lf ro : Nat) : KLe 26 (F22.C4 call lf ro) (F22.K4 call lf ro) :=
  (KLe.block (KLe.seq (H := (F22.Ht call lf ro)) (J := (F22.Ut call lf ro)) (KLe.refl _) (hd_free rfl)))

theorem F22.B4 (call : CT) (lf ro : Nat) : ∀ n e h, Shaped 26 e → LeO (F22.P4 (F22.L4 call lf ro n) e h) (loopK (execK Tryd.prog call lf ro (sub (codeOf Tryd.f22) [true, true, false, true, false, false])) n e h (F22.K4 call lf ro)) := by
  refine loop_le (fun e h k k' hs hk => execK_mono _ e h k k' hs hk) (kb := fun n => F22.P4 (F22.L4 call lf ro n)) (kx := fun i e h => F22.C4 call lf ro (.exit i e h)) (kr := fun e h => F22.C4 call lf ro (.ret e h)) ?_ ?_ (fun i e h hs => (F22.CK4 call lf ro).exit i e h hs) (fun e h hs => (F22.CK4 call lf ro).ret e h hs)
  · rintro e h ⟨f, rfl⟩
    unfold F22.P4
    refine getK_le fun w0 g0 => ?_
    rw [EF_get (by decide)] at g0
    refine sliceK_le fun a95 l95 c95 z106 => ?_
    subst z106
    refine getK_le fun w1 g1 => ?_
    rw [EF_get (by decide)] at g1
    refine sliceK_le fun a96 l96 c96 z107 => ?_
    subst z107
    refine getK_le fun w5 g5 => ?_
    rw [EF_get (by decide)] at g5
    refine intK_le fun n97 z108 => ?_
    subst z108
    exact LeO.refl _
  · rintro n e h ⟨f, rfl⟩
    unfold F22.P4
    refine getK_le fun w0 g0 => ?_
    rw [EF_get (by decide)] at g0
    refine sliceK_le fun a95 l95 c95 z109 => ?_
    subst z109
    refine getK_le fun w1 g1 => ?_
    rw [EF_get (by decide)] at g1
    refine sliceK_le fun a96 l96 c96 z110 => ?_
    subst z110
    refine getK_le fun w5 g5 => ?_
    rw [EF_get (by decide)] at g5
    refine intK_le fun n97 z111 => ?_
    subst z111
    have hr := F22.R4 call lf ro n f a95 l95 c95 a96 l96 c96 n97 h
    rw [updF_same g0, updF_same g1, updF_same g5] at hr
    exact round_le (H := (F22.H4 call lf ro (F22.L4 call lf ro n))) (J := (F22.U4 call lf ro (F22.L4 call lf ro n))) ⟨(hd_free rfl), (fun e h hs => F22.BJ6 call lf ro (F22.L4 call lf ro n) e h hs)⟩ hr

theorem F22.RJ3 (call : CT) (lf ro : Nat) (f : Nat → Option Value) (a1 : Option Addr) (l1 : Nat) (c1 : Nat) (a2 : Option Addr) (l2 : Nat) (c2 : Nat) (h3 : Heap) :
    execH Tryd.prog call ro (F22.Ht call lf ro) (F22.Ut call lf ro) (sub (codeOf Tryd.f22) [true, true]) (EF 26 (updF (updF f 0 (some (.slice a1 l1 c1))) 1 (some (.slice a2 l2 c2)))) h3 (F22.CJ3 call lf ro) = F22.J3 call lf ro a1 l1 c1 a2 l2 c2 h3 := by kernel_rfl

theorem F22.CKJ3 (call : CT) (lf ro : Nat) : KLe 26 (F22.CJ3 call lf ro) (F22.KJ3 call lf ro) :=
  (KLe.refl _)

theorem F22.BJ3 (call : CT) (lf ro : Nat) : ∀ e h, Shaped 26 e → LeO (F22.PJ3 (F22.J3 call lf ro) e h) (execK Tryd.prog call lf ro (sub (codeOf Tryd.f22) [true, true]) e h (F22.KJ3 call lf ro)) := by
    rintro e h ⟨f, rfl⟩
    unfold F22.PJ3
    refine getK_le fun w0 g0 => ?_
    rw [EF_get (by decide)] at g0
    refine sliceK_le fun a98 l98 c98 z112 => ?_
    subst z112
    refine getK_le fun w1 g1 => ?_
    rw [EF_get (by decide)] at g1
    refine sliceK_le fun a99 l99 c99 z113 => ?_
    subst z113
    have hr := F22.RJ3 call lf ro f a98 l98 c98 a99 l99 c99 h
    rw [updF_same g0, updF_same g1] at hr
    exact cut_le (H := (F22.Ht call lf ro)) (J := (F22.Ut call lf ro)) (F22.CKJ3 call lf ro) ⟨⟨(hd_free rfl), (fun e h hs => F22.B4 call lf ro  lf e h hs)⟩, (hd_free rfl)⟩ hr

theorem F22.le (call : CT) (lf ro : Nat) (ax0 : Option Addr) (lx0 : Nat) (cx0 : Nat) (ax1 : Option Addr) (lx1 : Nat) (cx1 : Nat) (h : Heap) : LeO (F22.t call lf ro ax0 lx0 cx0 ax1 lx1 cx1 h) (bodyK Tryd.prog call lf ro Tryd.f22 [.slice ax0 lx0 cx0, .slice ax1 lx1 cx1] h) :=
  body_le (c := codeOf Tryd.f22) (H := F22.Ht call lf ro) (J := F22.Ut call lf ro) rfl (Nat.le_of_ble_eq_true rfl) ⟨(hd_free rfl), ⟨(hd_free rfl), (fun e h hs => F22.BJ3 call lf ro  e h hs)⟩⟩ (by kernel_rfl)

/-! ### barscan/barscanref01.Same: function 15 -/

noncomputable def F15.J6 (call : CT) (lf ro : Nat) (kb4 : (Option Addr) → Nat → Nat → (Option Addr) → Nat → Nat → Int → Heap → Out) (a8 : Option Addr) (l8 : Nat) (c8 : Nat) (a9 : Option Addr) (l9 : Nat) (c9 : Nat) (n10 : Int) (h11 : Heap) : Out :=
  bindN (idxO Tryd.prog 24 (.slice a8 l8 c8) (.int .i64 n10) h11) fun v82 h83 =>
  bindN (loadO Tryd.prog 4 v82 h83) fun v84 h85 =>
  boolK v84 fun b86 =>
  bindN (idxO Tryd.prog 24 (.slice a9 l9 c9) (.int .i64 n10) h85) fun v87 h88 =>
  bindN (loadO Tryd.prog 4 v87 h88) fun v89 h90 =>
  boolK v89 fun b91 =>
  ifK (!(b86 == b91)) (Out.ok (.bool false) h90) (kb4 a8 l8 c8 a9 l9 c9 (IntKind.i64.wrap (n10 + 1)) h90)

noncomputable def F15.PJ6 (kb : (Option Addr) → Nat → Nat → (Option Addr) → Nat → Nat → Int → Heap → Out) (e : Env) (h : Heap) : Out :=
  getK (e.get 0) fun w0 =>
  sliceK w0 fun a92 l92 c92 =>
  getK (e.get 1) fun w1 =>
  sliceK w1 fun a93 l93 c93 =>
  getK (e.get 5) fun w5 =>
  intK .i64 w5 fun n94 =>
  kb a92 l92 c92 a93 l93 c93 n94 h

noncomputable def F15.L4 (call : CT) (lf ro : Nat) : Nat → (Option Addr) → Nat → Nat → (Option Addr) → Nat → Nat → Int → Heap → Out
  | 0, _, _, _, _, _, _, _, _ => .fail
  | n + 1, a4, l4, c4, a5, l5, c5, n6, h7 =>
  ifK (decide (n6 < (l4 : Int))) (F15.J6 call lf ro (F15.L4 call lf ro n) a4 l4 c4 a5 l5 c5 n6 h7) (Out.ok (.bool true) h7)

noncomputable def F15.P4 (kb : (Option Addr) → Nat → Nat → (Option Addr) → Nat → Nat → Int → Heap → Out) (e : Env) (h : Heap) : Out :=
  getK (e.get 0) fun w0 =>
  sliceK w0 fun a95 l95 c95 =>
  getK (e.get 1) fun w1 =>
  sliceK w1 fun a96 l96 c96 =>
  getK (e.get 5) fun w5 =>
  intK .i64 w5 fun n97 =>
  kb a95 l95 c95 a96 l96 c96 n97 h

noncomputable def F15.J3 (call : CT) (lf ro : Nat) (a1 : Option Addr) (l1 : Nat) (c1 : Nat) (a2 : Option Addr) (l2 : Nat) (c2 : Nat) (h3 : Heap) : Out :=
  F15.L4 call lf ro lf a1 l1 c1 a2 l2 c2 0 h3

noncomputable def F15.PJ3 (kb : (Option Addr) → Nat → Nat → (Option Addr) → Nat → Nat → Heap → Out) (e : Env) (h : Heap) : Out :=
  getK (e.get 0) fun w0 =>
  sliceK w0 fun a98 l98 c98 =>
  getK (e.get 1) fun w1 =>
  sliceK w1 fun a99 l99 c99 =>
  kb a98 l98 c98 a99 l99 c99 h

noncomputable def F15.t (call : CT) (lf ro : Nat) (ax0 : Option Addr) (lx0 : Nat) (cx0 : Nat) (ax1 : Option Addr) (lx1 : Nat) (cx1 : Nat) (h : Heap) : Out :=
  ifK ((lx0 : Int) != (lx1 : Int)) (Out.ok (.bool false) h) (F15.J3 call lf ro ax0 lx0 cx0 ax1 lx1 cx1 h)

noncomputable def F15.Ht (call : CT) (lf ro : Nat) (i : Nat) (e : Env) (h : Heap) : Out := ifK (i == 4) (F15.P4 (F15.L4 call lf ro lf) e h) (.fail)
noncomputable def F15.Ut (call : CT) (lf ro : Nat) (i : Nat) : Option (Env → Heap → Out) := ifJ (i == 3) (some (F15.PJ3 (F15.J3 call lf ro))) (none)

noncomputable def F15.H4 (call : CT) (lf ro : Nat) (kb4 : (Option Addr) → Nat → Nat → (Option Addr) → Nat → Nat → Int → Heap → Out) (i : Nat) (e : Env) (h : Heap) : Out := ifK (i == 4) (F15.P4 (F15.L4 call lf ro lf) e h) (.fail)
noncomputable def F15.U4 (call : CT) (lf ro : Nat) (kb4 : (Option Addr) → Nat → Nat → (Option Addr) → Nat → Nat → Int → Heap → Out) (i : Nat) : Option (Env → Heap → Out) := ifJ (i == 6) (some (F15.PJ6 (F15.J6 call lf ro kb4))) (ifJ (i == 3) (some (F15.PJ3 (F15.J3 call lf ro))) (none))

noncomputable def F15.C4 (call : CT) (lf ro : Nat) : COut → Out := blockK 0 (seqH Tryd.prog call ro (F15.Ht call lf ro) (F15.Ut call lf ro) (sub (codeOf Tryd.f15) [true, true, true]) (endK Tryd.prog Tryd.f15))

noncomputable def F15.K4 (call : CT) (lf ro : Nat) : COut → Out := blockK 0 (seqK Tryd.prog call lf ro (sub (codeOf Tryd.f15) [true, true, true]) (endK Tryd.prog Tryd.f15))

noncomputable def F15.CJ3 (call : CT) (lf ro : Nat) : COut → Out := endK Tryd.prog Tryd.f15

noncomputable def F15.KJ3 (call : CT) (lf ro : Nat) : COut → Out := endK Tryd.prog Tryd.f15

noncomputable def F15.CJ6 (call : CT) (lf ro : Nat) (kb4 : (Option Addr) → Nat → Nat → (Option Addr) → Nat → Nat → Int → Heap → Out) : COut → Out := outK (F15.P4 kb4) (fun i e h => F15.C4 call lf ro (.exit i e h)) (fun e h => F15.C4 call lf ro (.ret e h))

noncomputable def F15.KJ6 (call : CT) (lf ro : Nat) (kb4 : (Option Addr) → Nat → Nat → (Option Addr) → Nat → Nat → Int → Heap → Out) : COut → Out := outK (F15.P4 kb4) (fun i e h => F15.C4 call lf ro (.exit i e h)) (fun e h => F15.C4 call lf ro (.ret e h))

theorem F15.RJ6 (call : CT) (lf ro : Nat) (kb4 : (Option Addr) → Nat → Nat → (Option Addr) → Nat → Nat → Int → Heap → Out) (f : Nat → Option Value) (a8 : Option Addr) (l8 : Nat) (c8 : Nat) (a9 : Option Addr) (l9 : Nat) (c9 : Nat) (n10 : Int) (h11 : Heap) :
    execH Tryd.prog call ro (F15.H4 call lf ro kb4) (F15.U4 call lf ro kb4) (sub (codeOf Tryd.f15) [true, true, false, true, false, false, true]) (EF 26 (updF (updF (updF f 0 (some (.slice a8 l8 c8))) 1 (some (.slice a9 l9 c9))) 5 (some (.int .i64 n10)))) h11 (F15.CJ6 call lf ro kb4) = F15.J6 call lf ro kb4 a8 l8 c8 a9 l9 c9 n10 h11 := by kernel_rfl

theorem F15.CKJ6 (call : CT) (lf ro : Nat) (kb4 : (Option Addr) → Nat → Nat → (Option Addr) → Nat → Nat → Int → Heap → Out) : KLe 26 (F15.CJ6 call lf ro kb4) (F15.KJ6 call lf ro kb4) :=
  (KLe.refl _)

theorem F15.BJ6 (call : CT) (lf ro : Nat) (kb4 : (Option Addr) → Nat → Nat → (Option Addr) → Nat → Nat → Int → Heap → Out) : ∀ e h, Shaped 26 e → LeO (F15.PJ6 (F15.J6 call lf ro kb4) e h) (execK Tryd.prog call lf ro (sub (codeOf Tryd.f15) [true, true, false, true, false, false, true]) e h (F15.KJ6 call lf ro kb4)) := by
    rintro e h ⟨f, rfl⟩
    unfold F15.PJ6
    refine getK_le fun w0 g0 => ?_
    rw [EF_get (by decide)] at g0
    refine sliceK_le fun a92 l92 c92 z100 => ?_
    subst z100
    refine getK_le fun w1 g1 => ?_
    rw [EF_get (by decide)] at g1
    refine sliceK_le fun a93 l93 c93 z101 => ?_
    subst z101
    refine getK_le fun w5 g5 => ?_
    rw [EF_get (by decide)] at g5
    refine intK_le fun n94 z102 => ?_
    subst z102
    have hr := F15.RJ6 call lf ro kb4 f a92 l92 c92 a93 l93 c93 n94 h
    rw [updF_same g0, updF_same g1, updF_same g5] at hr
    exact cut_le (H := (F15.H4 call lf ro kb4)) (J := (F15.U4 call lf ro kb4)) (F15.CKJ6 call lf ro kb4) (hd_free rfl) hr

theorem F15.R4 (call : CT) (lf ro : Nat) (n : Nat) (f : Nat → Option Value) (a4 : Option Addr) (l4 : Nat) (c4 : Nat) (a5 : Option Addr) (l5 : Nat) (c5 : Nat) (n6 : Int) (h7 : Heap) :
    execH Tryd.prog call ro (F15.H4 call lf ro (F15.L4 call lf ro n)) (F15.U4 call lf ro (F15.L4 call lf ro n)) (sub (codeOf Tryd.f15) [true, true, false, true, false, false]) (EF 26 (updF (updF (updF f 0 (some (.slice a4 l4 c4))) 1 (some (.slice a5 l5 c5))) 5 (some (.int .i64 n6)))) h7 (outK (F15.P4 (F15.L4 call lf ro n)) (fun i e h => F15.C4 call lf ro (.exit i e h)) (fun e h => F15.C4 call lf ro (.ret e h))) = F15.L4 call lf ro (n + 1) a4 l4 c4 a5 l5 c5 n6 h7 := by kernel_rfl

theorem F15.CK4 (call : CT) (lf ro : Nat) : KLe 26 (F15.C4 call lf ro) (F15.K4 call lf ro) :=
  (KLe.block (KLe.seq (H := (F15.Ht call lf ro)) (J := (F15.Ut call lf ro)) (KLe.refl _) (hd_free rfl)))

theorem F15.B4 (call : CT) (lf ro : Nat) : ∀ n e h, Shaped 26 e → LeO (F15.P4 (F15.L4 call lf ro n) e h) (loopK (execK Tryd.prog call lf ro (sub (codeOf Tryd.f15) [true, true, false, true, false, false])) n e h (F15.K4 call lf ro)) := by
  refine loop_le (fun e h k k' hs hk => execK_mono _ e h k k' hs hk) (kb := fun n => F15.P4 (F15.L4 call lf ro n)) (kx := fun i e h => F15.C4 call lf ro (.exit i e h)) (kr := fun e h => F15.C4 call lf ro (.ret e h)) ?_ ?_ (fun i e h hs => (F15.CK4 call lf ro).exit i e h hs) (fun e h hs => (F15.CK4 call lf ro).ret e h hs)
  · rintro e h ⟨f, rfl⟩
    unfold F15.P4
    refine getK_le fun w0 g0 => ?_
    rw [EF_get (by decide)] at g0
    refine sliceK_le fun a95 l95 c95 z106 => ?_
    subst z106
    refine getK_le fun w1 g1 => ?_
    rw [EF_get (by decide)] at g1
    refine sliceK_le fun a96 l96 c96 z107 => ?_
    subst z107
    refine getK_le fun w5 g5 => ?_
    rw [EF_get (by decide)] at g5
    refine intK_le fun n97 z108 => ?_
    subst z108
    exact LeO.refl _
  · rintro n e h ⟨f, rfl⟩
    unfold F15.P4
    refine getK_le fun w0 g0 => ?_
    rw [EF_get (by decide)] at g0
    refine sliceK_le fun a95 l95 c95 z109 => ?_
    subst z109
    refine getK_le fun w1 g1 => ?_
    rw [EF_get (by decide)] at g1
    refine sliceK_le fun a96 l96 c96 z110 => ?_
    subst z110
    refine getK_le fun w5 g5 => ?_
    rw [EF_get (by decide)] at g5
    refine intK_le fun n97 z111 => ?_
    subst z111
    have hr := F15.R4 call lf ro n f a95 l95 c95 a96 l96 c96 n97 h
    rw [updF_same g0, updF_same g1, updF_same g5] at hr
    exact round_le (H := (F15.H4 call lf ro (F15.L4 call lf ro n))) (J := (F15.U4 call lf ro (F15.L4 call lf ro n))) ⟨(hd_free rfl), (fun e h hs => F15.BJ6 call lf ro (F15.L4 call lf ro n) e h hs)⟩ hr

theorem F15.RJ3 (call : CT) (lf ro : Nat) (f : Nat → Option Value) (a1 : Option Addr) (l1 : Nat) (c1 : Nat) (a2 : Option Addr) (l2 : Nat) (c2 : Nat) (h3 : Heap) :
    execH Tryd.prog call ro (F15.Ht call lf ro) (F15.Ut call lf ro) (sub (codeOf Tryd.f15) [true, true]) (EF 26 (updF (updF f 0 (some (.slice a1 l1 c1))) 1 (some (.slice a2 l2 c2)))) h3 (F15.CJ3 call lf ro) = F15.J3 call lf ro a1 l1 c1 a2 l2 c2 h3 := by kernel_rfl

theorem F15.CKJ3 (call : CT) (lf ro : Nat) : KLe 26 (F15.CJ3 call lf ro) (F15.KJ3 call lf ro) :=
  (KLe.refl _)

theorem F15.BJ3 (call : CT) (lf ro : Nat) : ∀ e h, Shaped 26 e → LeO (F15.PJ3 (F15.J3 call lf ro) e h) (execK Tryd.prog call lf ro (sub (codeOf Tryd.f15) [true, true]) e h (F15.KJ3 call lf ro)) := by
    rintro e h ⟨f, rfl⟩
    unfold F15.PJ3
    refine getK_le fun w0 g0 => ?_
    rw [EF_get (by decide)] at g0
    refine sliceK_le fun a98 l98 c98 z112 => ?_
    subst z112
    refine getK_le fun w1 g1 => ?_
    rw [EF_get (by decide)] at g1
    refine sliceK_le fun a99 l99 c99 z113 => ?_
    subst z113
    have hr := F15.RJ3 call lf ro f a98 l98 c98 a99 l99 c99 h
    rw [updF_same g0, updF_same g1] at hr
    exact cut_le (H := (F15.Ht call lf ro)) (J := (F15.Ut call lf ro)) (F15.CKJ3 call lf ro) ⟨⟨(hd_free rfl), (fun e h hs => F15.B4 call lf ro  lf e h hs)⟩, (hd_free rfl)⟩ hr

theorem F15.le (call : CT) (lf ro : Nat) (ax0 : Option Addr) (lx0 : Nat) (cx0 : Nat) (ax1 : Option Addr) (lx1 : Nat) (cx1 : Nat) (h : Heap) : LeO (F15.t call lf ro ax0 lx0 cx0 ax1 lx1 cx1 h) (bodyK Tryd.prog call lf ro Tryd.f15 [.slice ax0 lx0 cx0, .slice ax1 lx1 cx1] h) :=
  body_le (c := codeOf Tryd.f15) (H := F15.Ht call lf ro) (J := F15.Ut call lf ro) rfl (Nat.le_of_ble_eq_true rfl) ⟨(hd_free rfl), ⟨(hd_free rfl), (fun e h hs => F15.BJ3 call lf ro  e h hs)⟩⟩ (by kernel_rfl)

/-! ### barscan/aztext.Stuff$1: function 44 -/

noncomputable def F44.t (call : CT) (lf ro : Nat) (x0 : Int) (py0 : Nat) (oy0 : Nat) (h : Heap) : Out :=
  letJ (fun (b12 : Bool) (h13 : Heap) =>
  (ifK b12 (Out.ok (.int .i64 1) h13) (Out.ok (.int .i64 0) h13))) fun j14 =>
  bindO (loadO Tryd.prog 24 (.pointer (some ⟨py0, oy0, none⟩)) h) fun v15 h16 =>
  sliceK v15 fun a17 l17 c17 =>
  ifK (decide (x0 ≥ (l17 : Int))) (j14 true h16) (bindO (loadO Tryd.prog 24 (.pointer (some ⟨py0, oy0, none⟩)) h16) fun v18 h19 =>
  sliceK v18 fun a20 l20 c20 =>
  bindO (idxO Tryd.prog 24 (.slice a20 l20 c20) (.int .i64 x0) h19) fun v21 h22 =>
  bindO (loadO Tryd.prog 4 v21 h22) fun v23 h24 =>
  boolK v23 fun b25 =>
  j14 b25 h24)

noncomputable def F44.Ht (call : CT) (lf ro : Nat) (i : Nat) (e : Env) (h : Heap) : Out := .fail
noncomputable def F44.Ut (call : CT) (lf ro : Nat) (i : Nat) : Option (Env → Heap → Out) := none

theorem F44.le (call : CT) (lf ro : Nat) (x0 : Int) (py0 : Nat) (oy0 : Nat) (h : Heap) : LeO (F44.t call lf ro x0 py0 oy0 h) (bodyK Tryd.prog call lf ro Tryd.f44 [.int .i64 x0, .pointer (some ⟨py0, oy0, none⟩)] h) :=
  body_le (c := codeOf Tryd.f44) (H := F44.Ht call lf ro) (J := F44.Ut call lf ro) rfl (Nat.le_of_ble_eq_true rfl) (hd_free rfl) (by kernel_rfl)

/-! ### barscan/aztext.Stuff: function 18 -/

noncomputable def F18.J15 (call : CT) (lf ro : Nat) (kb8 : Int → Nat → Nat → Nat → Nat → (Option Addr) → Nat → Nat → Int → Heap → Out) (n43 : Int) (p44 : Nat) (o44 : Nat) (p45 : Nat) (o45 : Nat) (a46 : Option Addr) (l46 : Nat) (c46 : Nat) (n47 : Int) (n48 : Int) (h49 : Heap) : Out :=
  letJ (fun (n94 : Int) (n95 : Int) (h96 : Heap) =>
  (pushJ h96 1 [.int .i64 n95] fun h98 =>
  bindO (appO Tryd.prog ro 35 35 (.slice a46 l46 c46) (.slice (some ⟨h96.next, 0, none⟩) 1 1) h98) fun v99 h100 =>
  sliceK v99 fun a101 l101 c101 =>
  kb8 n43 p44 o44 p45 o45 a101 l101 c101 n94 h100)) fun j97 =>
  ifK (n48 == 0) (j97 (IntKind.i64.wrap (n47 + (IntKind.i64.wrap (n43 - 1)))) 1 h49) (bindO (binO Tryd.prog .shl 3 true (.int .i64 1) (.int .i64 (IntKind.i64.wrap (n43 - 1))) h49) fun v105 h106 =>
  intK .i64 v105 fun n107 =>
  ifK (n48 == (IntKind.i64.wrap (n107 - 1))) (j97 (IntKind.i64.wrap (n47 + (IntKind.i64.wrap (n43 - 1)))) (IntKind.i64.wrap (n48 * 2)) h106) (bindO (call ro 44 [.int .i64 (IntKind.i64.wrap (n47 + (IntKind.i64.wrap (n43 - 1)))), .pointer (some ⟨p45, o45, none⟩)] h106) fun v111 h112 =>
  intK .i64 v111 fun n113 =>
  j97 (IntKind.i64.wrap ((IntKind.i64.wrap (n47 + (IntKind.i64.wrap (n43 - 1)))) + 1)) (IntKind.i64.wrap ((IntKind.i64.wrap (2 * n48)) + n113)) h112))

noncomputable def F18.PJ15 (kb : Int → Nat → Nat → Nat → Nat → (Option Addr) → Nat → Nat → Int → Int → Heap → Out) (e : Env) (h : Heap) : Out :=
  getK (e.get 1) fun w1 =>
  intK .i64 w1 fun n114 =>
  getK (e.get 2) fun w2 =>
  ptrK w2 fun p115 o115 =>
  getK (e.get 6) fun w6 =>
  funK 44 w6 fun q117 q118 =>
  nilK q117 <|
  consK q118 fun x119 q120 =>
  ptrK x119 fun p121 o121 =>
  nilK q120 <|
  getK (e.get 7) fun w7 =>
  sliceK w7 fun a122 l122 c122 =>
  getK (e.get 8) fun w8 =>
  intK .i64 w8 fun n123 =>
  getK (e.get 9) fun w9 =>
  intK .i64 w9 fun n124 =>
  kb n114 p115 o115 p121 o121 a122 l122 c122 n123 n124 h

noncomputable def F18.L11 (call : CT) (lf ro : Nat) (kb8 : Int → Nat → Nat → Nat → Nat → (Option Addr) → Nat → Nat → Int → Heap → Out) : Nat → Int → Nat → Nat → Nat → Nat → (Option Addr) → Nat → Nat → Int → Int → Int → Int → Heap → Out
  | 0, _, _, _, _, _, _, _, _, _, _, _, _, _ => .fail
  | n + 1, n34, p35, o35, p36, o36, a37, l37, c37, n38, n39, n40, n41, h42 =>
  ifK (decide (n41 < n40)) (bindO (call ro 44 [.int .i64 (IntKind.i64.wrap (n38 + n41)), .pointer (some ⟨p36, o36, none⟩)] h42) fun v140 h141 =>
  intK .i64 v140 fun n142 =>
  F18.L11 call lf ro kb8 n n34 p35 o35 p36 o36 a37 l37 c37 n38 (IntKind.i64.wrap ((IntKind.i64.wrap (2 * n39)) + n142)) n40 (IntKind.i64.wrap (n41 + 1)) h141) (F18.J15 call lf ro kb8 n34 p35 o35 p36 o36 a37 l37 c37 n38 n39 h42)

noncomputable def F18.P11 (kb : Int → Nat → Nat → Nat → Nat → (Option Addr) → Nat → Nat → Int → Int → Int → Int → Heap → Out) (e : Env) (h : Heap) : Out :=
  getK (e.get 1) fun w1 =>
  intK .i64 w1 fun n143 =>
  getK (e.get 2) fun w2 =>
  ptrK w2 fun p144 o144 =>
  getK (e.get 6) fun w6 =>
  funK 44 w6 fun q146 q147 =>
  nilK q146 <|
  consK q147 fun x148 q149 =>
  ptrK x148 fun p150 o150 =>
  nilK q149 <|
  getK (e.get 7) fun w7 =>
  sliceK w7 fun a151 l151 c151 =>
  getK (e.get 8) fun w8 =>
  intK .i64 w8 fun n152 =>
  getK (e.get 9) fun w9 =>
  intK .i64 w9 fun n153 =>
  getK (e.get 28) fun w28 =>
  intK .i64 w28 fun n154 =>
  getK (e.get 29) fun w29 =>
  intK .i64 w29 fun n155 =>
  kb n143 p144 o144 p150 o150 a151 l151 c151 n152 n153 n154 n155 h

noncomputable def F18.J9 (call : CT) (lf ro : Nat) (kb8 : Int → Nat → Nat → Nat → Nat → (Option Addr) → Nat → Nat → Int → Heap → Out) (n28 : Int) (p29 : Nat) (o29 : Nat) (p30 : Nat) (o30 : Nat) (a31 : Option Addr) (l31 : Nat) (c31 : Nat) (n32 : Int) (h33 : Heap) : Out :=
  F18.L11 call lf ro kb8 lf n28 p29 o29 p30 o30 a31 l31 c31 n32 0 (IntKind.i64.wrap (n28 - 1)) 0 h33

noncomputable def F18.PJ9 (kb : Int → Nat → Nat → Nat → Nat → (Option Addr) → Nat → Nat → Int → Heap → Out) (e : Env) (h : Heap) : Out :=
  getK (e.get 1) fun w1 =>
  intK .i64 w1 fun n156 =>
  getK (e.get 2) fun w2 =>
  ptrK w2 fun p157 o157 =>
  getK (e.get 6) fun w6 =>
  funK 44 w6 fun q159 q160 =>
  nilK q159 <|
  consK q160 fun x161 q162 =>
  ptrK x161 fun p163 o163 =>
  nilK q162 <|
  getK (e.get 7) fun w7 =>
  sliceK w7 fun a164 l164 c164 =>
  getK (e.get 8) fun w8 =>
  intK .i64 w8 fun n165 =>
  kb n156 p157 o157 p163 o163 a164 l164 c164 n165 h

noncomputable def F18.L8 (call : CT) (lf ro : Nat) : Nat → Int → Nat → Nat → Nat → Nat → (Option Addr) → Nat → Nat → Int → Heap → Out
  | 0, _, _, _, _, _, _, _, _, _, _ => .fail
  | n + 1, n16, p17, o17, p18, o18, a19, l19, c19, n20, h21 =>
  bindO (loadO Tryd.prog 24 (.pointer (some ⟨p17, o17, none⟩)) h21) fun v169 h170 =>
  sliceK v169 fun a171 l171 c171 =>
  ifK (decide (n20 < (l171 : Int))) (F18.J9 call lf ro (F18.L8 call lf ro n) n16 p17 o17 p18 o18 a19 l19 c19 n20 h170) (Out.ok (.tuple #[.slice a19 l19 c19, .int .i64 0]) h170)

noncomputable def F18.P8 (kb : Int → Nat → Nat → Nat → Nat → (Option Addr) → Nat → Nat → Int → Heap → Out) (e : Env) (h : Heap) : Out :=
  getK (e.get 1) fun w1 =>
  intK .i64 w1 fun n172 =>
  getK (e.get 2) fun w2 =>
  ptrK w2 fun p173 o173 =>
  getK (e.get 6) fun w6 =>
  funK 44 w6 fun q175 q176 =>
  nilK q175 <|
  consK q176 fun x177 q178 =>
  ptrK x177 fun p179 o179 =>
  nilK q178 <|
  getK (e.get 7) fun w7 =>
  sliceK w7 fun a180 l180 c180 =>
  getK (e.get 8) fun w8 =>
  intK .i64 w8 fun n181 =>
  kb n172 p173 o173 p179 o179 a180 l180 c180 n181 h

noncomputable def F18.J5 (call : CT) (lf ro : Nat) (n13 : Int) (p14 : Nat) (o14 : Nat) (h15 : Heap) : Out :=
  F18.L8 call lf ro lf n13 p14 o14 p14 o14 none 0 0 0 h15

noncomputable def F18.PJ5 (kb : Int → Nat → Nat → Heap → Out) (e : Env) (h : Heap) : Out :=
  getK (e.get 1) fun w1 =>
  intK .i64 w1 fun n182 =>
  getK (e.get 2) fun w2 =>
  ptrK w2 fun p183 o183 =>
  kb n182 p183 o183 h

noncomputable def F18.J2 (call : CT) (lf ro : Nat) (n3 : Int) (p4 : Nat) (o4 : Nat) (b5 : Bool) (h6 : Heap) : Out :=
  ifK b5 (Out.ok (.tuple #[.slice none 0 0, .int .i64 3]) h6) (bindO (loadO Tryd.prog 24 (.pointer (some ⟨p4, o4, none⟩)) h6) fun v10 h11 =>
  sliceK v10 fun a12 l12 c12 =>
  ifK (decide ((l12 : Int) > 1048576)) (Out.ok (.tuple #[.slice none 0 0, .int .i64 4]) h11) (F18.J5 call lf ro n3 p4 o4 h11))

noncomputable def F18.PJ2 (kb : Int → Nat → Nat → Bool → Heap → Out) (e : Env) (h : Heap) : Out :=
  getK (e.get 1) fun w1 =>
  intK .i64 w1 fun n184 =>
  getK (e.get 2) fun w2 =>
  ptrK w2 fun p185 o185 =>
  getK (e.get 11) fun w11 =>
  boolK w11 fun b186 =>
  kb n184 p185 o185 b186 h

noncomputable def F18.t (call : CT) (lf ro : Nat) (ax0 : Option Addr) (lx0 : Nat) (cx0 : Nat) (x1 : Int) (h : Heap) : Out :=
  pushJ h 1 [.slice ax0 lx0 cx0] fun h2 =>
  ifK (decide (x1 < 2)) (F18.J2 call lf ro x1 h.next 0 true h2) (F18.J2 call lf ro x1 h.next 0 (decide (x1 > 12)) h2)

noncomputable def F18.Ht (call : CT) (lf ro : Nat) (i : Nat) (e : Env) (h : Heap) : Out := ifK (i == 8) (F18.P8 (F18.L8 call lf ro lf) e h) (.fail)
noncomputable def F18.Ut (call : CT) (lf ro : Nat) (i : Nat) : Option (Env → Heap → Out) := ifJ (i == 5) (some (F18.PJ5 (F18.J5 call lf ro))) (ifJ (i == 2) (some (F18.PJ2 (F18.J2 call lf ro))) (none))

noncomputable def F18.H11 (call : CT) (lf ro : Nat) (kb8 : Int → Nat → Nat → Nat → Nat → (Option Addr) → Nat → Nat → Int → Heap → Out) (kb11 : Int → Nat → Nat → Nat → Nat → (Option Addr) → Nat → Nat → Int → Int → Int → Int → Heap → Out) (i : Nat) (e : Env) (h : Heap) : Out := ifK (i == 11) (F18.P11 (F18.L11 call lf ro kb8 lf) e h) (ifK (i == 8) (F18.P8 (F18.L8 call lf ro lf) e h) (.fail))
noncomputable def F18.U11 (call : CT) (lf ro : Nat) (kb8 : Int → Nat → Nat → Nat → Nat → (Option Addr) → Nat → Nat → Int → Heap → Out) (kb11 : Int → Nat → Nat → Nat → Nat → (Option Addr) → Nat → Nat → Int → Int → Int → Int → Heap → Out) (i : Nat) : Option (Env → Heap → Out) := ifJ (i == 15) (some (F18.PJ15 (F18.J15 call lf ro kb8))) (ifJ (i == 9) (some (F18.PJ9 (F18.J9 call lf ro kb8))) (ifJ (i == 5) (some (F18.PJ5 (F18.J5 call lf ro))) (ifJ (i == 2) (some (F18.PJ2 (F18.J2 call lf ro))) (none))))

noncomputable def F18.H8 (call : CT) (lf ro : Nat) (kb8 : Int → Nat → Nat → Nat → Nat → (Option Addr) → Nat → Nat → Int → Heap → Out) (i : Nat) (e : Env) (h : Heap) : Out := ifK (i == 11) (F18.P11 (F18.L11 call lf ro kb8 lf) e h) (ifK (i == 8) (F18.P8 (F18.L8 call lf ro lf) e h) (.fail))
noncomputable def F18.U8 (call : CT) (lf ro : Nat) (kb8 : Int → Nat → Nat → Nat → Nat → (Option Addr) → Nat → Nat → Int → Heap → Out) (i : Nat) : Option (Env → Heap → Out) := ifJ (i == 15) (some (F18.PJ15 (F18.J15 call lf ro kb8))) (ifJ (i == 9) (some (F18.PJ9 (F18.J9 call lf ro kb8))) (ifJ (i == 5) (some (F18.PJ5 (F18.J5 call lf ro))) (ifJ (i == 2) (some (F18.PJ2 (F18.J2 call lf ro))) (none))))

noncomputable def F18.C8 (call : CT) (lf ro : Nat) : COut → Out := blockK 1 (seqH Tryd.prog call ro (F18.Ht call lf ro) (F18.Ut call lf ro) (sub (codeOf Tryd.f18) [true, true, true, true, true]) (endK Tryd.prog Tryd.f18))

noncomputable def F18.K8 (call : CT) (lf ro : Nat) : COut → Out := blockK 1 (seqK Tryd.prog call lf ro (sub (codeOf Tryd.f18) [true, true, true, true, true]) (endK Tryd.prog Tryd.f18))

noncomputable def F18.CJ5 (call : CT) (lf ro : Nat) : COut → Out := endK Tryd.prog Tryd.f18

noncomputable def F18.KJ5 (call : CT) (lf ro : Nat) : COut → Out := endK Tryd.prog Tryd.f18

noncomputable def F18.CJ2 (call : CT) (lf ro : Nat) : COut → Out := blockK 0 (seqH Tryd.prog call ro (F18.Ht call lf ro) (F18.Ut call lf ro) (sub (codeOf Tryd.f18) [true, true]) (endK Tryd.prog Tryd.f18))

noncomputable def F18.KJ2 (call : CT) (lf ro : Nat) : COut → Out := blockK 0 (seqK Tryd.prog call lf ro (sub (codeOf Tryd.f18) [true, true]) (endK Tryd.prog Tryd.f18))

noncomputable def F18.C11 (call : CT) (lf ro : Nat) (kb8 : Int → Nat → Nat → Nat → Nat → (Option Addr) → Nat → Nat → Int → Heap → Out) : COut → Out := blockK 3 (seqH Tryd.prog call ro (F18.H8 call lf ro kb8) (F18.U8 call lf ro kb8) (sub (codeOf Tryd.f18) [true, true, true, true, false, true, false, false, true, false, true, true]) (blockK 2 (outK (F18.P8 kb8) (fun i e h => F18.C8 call lf ro (.exit i e h)) (fun e h => F18.C8 call lf ro (.ret e h)))))

noncomputable def F18.K11 (call : CT) (lf ro : Nat) (kb8 : Int → Nat → Nat → Nat → Nat → (Option Addr) → Nat → Nat → Int → Heap → Out) : COut → Out := blockK 3 (seqK Tryd.prog call lf ro (sub (codeOf Tryd.f18) [true, true, true, true, false, true, false, false, true, false, true, true]) (blockK 2 (outK (F18.P8 kb8) (fun i e h => F18.C8 call lf ro (.exit i e h)) (fun e h => F18.C8 call lf ro (.ret e h)))))

noncomputable def F18.CJ15 (call : CT) (lf ro : Nat) (kb8 : Int → Nat → Nat → Nat → Nat → (Option Addr) → Nat → Nat → Int → Heap → Out) : COut → Out := blockK 2 (outK (F18.P8 kb8) (fun i e h => F18.C8 call lf ro (.exit i e h)) (fun e h => F18.C8 call lf ro (.ret e h)))

noncomputable def F18.KJ15 (call : CT) (lf ro : Nat) (kb8 : Int → Nat → Nat → Nat → Nat → (Option Addr) → Nat → Nat → Int → Heap → Out) : COut → Out := blockK 2 (outK (F18.P8 kb8) (fun i e h => F18.C8 call lf ro (.exit i e h)) (fun e h => F18.C8 call lf ro (.ret e h)))

noncomputable def F18.CJ9 (call : CT) (lf ro : Nat) (kb8 : Int → Nat → Nat → Nat → Nat → (Option Addr) → Nat → Nat → Int → Heap → Out) : COut → Out := outK (F18.P8 kb8) (fun i e h => F18.C8 call lf ro (.exit i e h)) (fun e h => F18.C8 call lf ro (.ret e h))

noncomputable def F18.KJ9 (call : CT) (lf ro : Nat) (kb8 : Int → Nat → Nat → Nat → Nat → (Option Addr) → Nat → Nat → Int → Heap → Out) : COut → Out := outK (F18.P8 kb8) (fun i e h => F18.C8 call lf ro (.exit i e h)) (fun e h => F18.C8 call lf ro (.ret e h))

theorem F18.RJ15 (call : CT) (lf ro : Nat) (kb8 : Int → Nat → Nat → Nat → Nat → (Option Addr) → Nat → Nat → Int → Heap → Out) (f : Nat → Option Value) (n43 : Int) (p44 : Nat) (o44 : Nat) (p45 : Nat) (o45 : Nat) (a46 : Option Addr) (l46 : Nat) (c46 : Nat) (n47 : Int) (n48 : Int) (h49 : Heap) :
    execH Tryd.prog call ro (F18.H8 call lf ro kb8) (F18.U8 call lf ro kb8) (sub (codeOf Tryd.f18) [true, true, true, true, false, true, false, false, true, false, true, true]) (EF 69 (updF (updF (updF (updF (updF (updF f 1 (some (.int .i64 n43))) 2 (some (.pointer (some ⟨p44, o44, none⟩)))) 6 (some (.func (.func 44) #[] #[.pointer (some ⟨p45, o45, none⟩)]))) 7 (some (.slice a46 l46 c46))) 8 (some (.int .i64 n47))) 9 (some (.int .i64 n48)))) h49 (F18.CJ15 call lf ro kb8) = F18.J15 call lf ro kb8 n43 p44 o44 p45 o45 a46 l46 c46 n47 n48 h49 := by kernel_rfl

theorem F18.CKJ15 (call : CT) (lf ro : Nat) (kb8 : Int → Nat → Nat → Nat → Nat → (Option Addr) → Nat → Nat → Int → Heap → Out) : KLe 69 (F18.CJ15 call lf ro kb8) (F18.KJ15 call lf ro kb8) :=
  (KLe.block (KLe.refl _))

theorem F18.BJ15 (call : CT) (lf ro : Nat) (kb8 : Int → Nat → Nat → Nat → Nat → (Option Addr) → Nat → Nat → Int → Heap → Out) : ∀ e h, Shaped 69 e → LeO (F18.PJ15 (F18.J15 call lf ro kb8) e h) (execK Tryd.prog call lf ro (sub (codeOf Tryd.f18) [true, true, true, true, false, true, false, false, true, false, true, true]) e h (F18.KJ15 call lf ro kb8)) := by
    rintro e h ⟨f, rfl⟩
    unfold F18.PJ15
    refine getK_le fun w1 g1 => ?_
    rw [EF_get (by decide)] at g1
    refine intK_le fun n114 z187 => ?_
    subst z187
    refine getK_le fun w2 g2 => ?_
    rw [EF_get (by decide)] at g2
    refine ptrK_le fun p115 o115 z188 => ?_
    subst z188
    refine getK_le fun w6 g6 => ?_
    rw [EF_get (by decide)] at g6
    refine funK_le fun q117 q118 z189 => ?_
    subst z189
    refine nilK_le fun z190 => ?_
    subst z190
    refine consK_le fun x119 q120 z191 => ?_
    subst z191
    refine ptrK_le fun p121 o121 z192 => ?_
    subst z192
    refine nilK_le fun z193 => ?_
    subst z193
    refine getK_le fun w7 g7 => ?_
    rw [EF_get (by decide)] at g7
    refine sliceK_le fun a122 l122 c122 z194 => ?_
    subst z194
    refine getK_le fun w8 g8 => ?_
    rw [EF_get (by decide)] at g8
    refine intK_le fun n123 z195 => ?_
    subst z195
    refine getK_le fun w9 g9 => ?_
    rw [EF_get (by decide)] at g9
    refine intK_le fun n124 z196 => ?_
    subst z196
    have hr := F18.RJ15 call lf ro kb8 f n114 p115 o115 p121 o121 a122 l122 c122 n123 n124 h
    rw [updF_same g1, updF_same g2, updF_same g6, updF_same g7, updF_same g8, updF_same g9] at hr
    exact cut_le (H := (F18.H8 call lf ro kb8)) (J := (F18.U8 call lf ro kb8)) (F18.CKJ15 call lf ro kb8) (hd_free rfl) hr

theorem F18.R11 (call : CT) (lf ro : Nat) (kb8 : Int → Nat → Nat → Nat → Nat → (Option Addr) → Nat → Nat → Int → Heap → Out) (n : Nat) (f : Nat → Option Value) (n34 : Int) (p35 : Nat) (o35 : Nat) (p36 : Nat) (o36 : Nat) (a37 : Option Addr) (l37 : Nat) (c37 : Nat) (n38 : Int) (n39 : Int) (n40 : Int) (n41 : Int) (h42 : Heap) :
    execH Tryd.prog call ro (F18.H11 call lf ro kb8 (F18.L11 call lf ro kb8 n)) (F18.U11 call lf ro kb8 (F18.L11 call lf ro kb8 n)) (sub (codeOf Tryd.f18) [true, true, true, true, false, true, false, false, true, false, true, false, true, false, false]) (EF 69 (updF (updF (updF (updF (updF (updF (updF (updF f 1 (some (.int .i64 n34))) 2 (some (.pointer (some ⟨p35, o35, none⟩)))) 6 (some (.func (.func 44) #[] #[.pointer (some ⟨p36, o36, none⟩)]))) 7 (some (.slice a37 l37 c37))) 8 (some (.int .i64 n38))) 9 (some (.int .i64 n39))) 28 (some (.int .i64 n40))) 29 (some (.int .i64 n41)))) h42 (outK (F18.P11 (F18.L11 call lf ro kb8 n)) (fun i e h => F18.C11 call lf ro kb8 (.exit i e h)) (fun e h => F18.C11 call lf ro kb8 (.ret e h))) = F18.L11 call lf ro kb8 (n + 1) n34 p35 o35 p36 o36 a37 l37 c37 n38 n39 n40 n41 h42 := by kernel_rfl

theorem F18.CK11 (call : CT) (lf ro : Nat) (kb8 : Int → Nat → Nat → Nat → Nat → (Option Addr) → Nat → Nat → Int → Heap → Out) : KLe 69 (F18.C11 call lf ro kb8) (F18.K11 call lf ro kb8) :=
  (KLe.block (KLe.seq (H := (F18.H8 call lf ro kb8)) (J := (F18.U8 call lf ro kb8)) (KLe.block (KLe.refl _)) (fun e h hs => F18.BJ15 call lf ro kb8 e h hs)))

theorem F18.B11 (call : CT) (lf ro : Nat) (kb8 : Int → Nat → Nat → Nat → Nat → (Option Addr) → Nat → Nat → Int → Heap → Out) : ∀ n e h, Shaped 69 e → LeO (F18.P11 (F18.L11 call lf ro kb8 n) e h) (loopK (execK Tryd.prog call lf ro (sub (codeOf Tryd.f18) [true, true, true, true, false, true, false, false, true, false, true, false, true, false, false])) n e h (F18.K11 call lf ro kb8)) := by
  refine loop_le (fun e h k k' hs hk => execK_mono _ e h k k' hs hk) (kb := fun n => F18.P11 (F18.L11 call lf ro kb8 n)) (kx := fun i e h => F18.C11 call lf ro kb8 (.exit i e h)) (kr := fun e h => F18.C11 call lf ro kb8 (.ret e h)) ?_ ?_ (fun i e h hs => (F18.CK11 call lf ro kb8).exit i e h hs) (fun e h hs => (F18.CK11 call lf ro kb8).ret e h hs)
  · rintro e h ⟨f, rfl⟩
    unfold F18.P11
    refine getK_le fun w1 g1 => ?_
    rw [EF_get (by decide)] at g1
    refine intK_le fun n143 z207 => ?_
    subst z207
    refine getK_le fun w2 g2 => ?_
    rw [EF_get (by decide)] at g2
    refine ptrK_le fun p144 o144 z208 => ?_
    subst z208
    refine getK_le fun w6 g6 => ?_
    rw [EF_get (by decide)] at g6
    refine funK_le fun q146 q147 z209 => ?_
    subst z209
    refine nilK_le fun z210 => ?_
    subst z210
    refine consK_le fun x148 q149 z211 => ?_
    subst z211
    refine ptrK_le fun p150 o150 z212 => ?_
    subst z212
    refine nilK_le fun z213 => ?_
    subst z213
    refine getK_le fun w7 g7 => ?_
    rw [EF_get (by decide)] at g7
    refine sliceK_le fun a151 l151 c151 z214 => ?_
    subst z214
    refine getK_le fun w8 g8 => ?_
    rw [EF_get (by decide)] at g8
    refine intK_le fun n152 z215 => ?_
    subst z215
    refine getK_le fun w9 g9 => ?_
    rw [EF_get (by decide)] at g9
    refine intK_le fun n153 z216 => ?_
    subst z216
    refine getK_le fun w28 g28 => ?_
    rw [EF_get (by decide)] at g28
    refine intK_le fun n154 z217 => ?_
    subst z217
    refine getK_le fun w29 g29 => ?_
    rw [EF_get (by decide)] at g29
    refine intK_le fun n155 z218 => ?_
    subst z218
    exact LeO.refl _
  · rintro n e h ⟨f, rfl⟩
    unfold F18.P11
    refine getK_le fun w1 g1 => ?_
    rw [EF_get (by decide)] at g1
    refine intK_le fun n143 z219 => ?_
    subst z219
    refine getK_le fun w2 g2 => ?_
    rw [EF_get (by decide)] at g2
    refine ptrK_le fun p144 o144 z220 => ?_
    subst z220
    refine getK_le fun w6 g6 => ?_
    rw [EF_get (by decide)] at g6
    refine funK_le fun q146 q147 z221 => ?_
    subst z221
    refine nilK_le fun z222 => ?_
    subst z222
    refine consK_le fun x148 q149 z223 => ?_
    subst z223
    refine ptrK_le fun p150 o150 z224 => ?_
    subst z224
    refine nilK_le fun z225 => ?_
    subst z225
    refine getK_le fun w7 g7 => ?_
    rw [EF_get (by decide)] at g7
    refine sliceK_le fun a151 l151 c151 z226 => ?_
    subst z226
    refine getK_le fun w8 g8 => ?_
    rw [EF_get (by decide)] at g8
    refine intK_le fun n152 z227 => ?_
    subst z227
    refine getK_le fun w9 g9 => ?_
    rw [EF_get (by decide)] at g9
    refine intK_le fun n153 z228 => ?_
    subst z228
    refine getK_le fun w28 g28 => ?_
    rw [EF_get (by decide)] at g28
    refine intK_le fun n154 z229 => ?_
    subst z229
    refine getK_le fun w29 g29 => ?_
    rw [EF_get (by decide)] at g29
    refine intK_le fun n155 z230 => ?_
    subst z230
    have hr := F18.R11 call lf ro kb8 n f n143 p144 o144 p150 o150 a151 l151 c151 n152 n153 n154 n155 h
    rw [updF_same g1, updF_same g2, updF_same g6, updF_same g7, updF_same g8, updF_same g9, updF_same g28, updF_same g29] at hr
    exact round_le (H := (F18.H11 call lf ro kb8 (F18.L11 call lf ro kb8 n))) (J := (F18.U11 call lf ro kb8 (F18.L11 call lf ro kb8 n))) (hd_free rfl) hr

theorem F18.RJ9 (call : CT) (lf ro : Nat) (kb8 : Int → Nat → Nat → Nat → Nat → (Option Addr) → Nat → Nat → Int → Heap → Out) (f : Nat → Option Value) (n28 : Int) (p29 : Nat) (o29 : Nat) (p30 : Nat) (o30 : Nat) (a31 : Option Addr) (l31 : Nat) (c31 : Nat) (n32 : Int) (h33 : Heap) :
    execH Tryd.prog call ro (F18.H8 call lf ro kb8) (F18.U8 call lf ro kb8) (sub (codeOf Tryd.f18) [true, true, true, true, false, true, false, false, true]) (EF 69 (updF (updF (updF (updF (updF f 1 (some (.int .i64 n28))) 2 (some (.pointer (some ⟨p29, o29, none⟩)))) 6 (some (.func (.func 44) #[] #[.pointer (some ⟨p30, o30, none⟩)]))) 7 (some (.slice a31 l31 c31))) 8 (some (.int .i64 n32)))) h33 (F18.CJ9 call lf ro kb8) = F18.J9 call lf ro kb8 n28 p29 o29 p30 o30 a31 l31 c31 n32 h33 := by kernel_rfl

theorem F18.CKJ9 (call : CT) (lf ro : Nat) (kb8 : Int → Nat → Nat → Nat → Nat → (Option Addr) → Nat → Nat → Int → Heap → Out) : KLe 69 (F18.CJ9 call lf ro kb8) (F18.KJ9 call lf ro kb8) :=
  (KLe.refl _)

theorem F18.BJ9 (call : CT) (lf ro : Nat) (kb8 : Int → Nat → Nat → Nat → Nat → (Option Addr) → Nat → Nat → Int → Heap → Out) : ∀ e h, Shaped 69 e → LeO (F18.PJ9 (F18.J9 call lf ro kb8) e h) (execK Tryd.prog call lf ro (sub (codeOf Tryd.f18) [true, true, true, true, false, true, false, false, true]) e h (F18.KJ9 call lf ro kb8)) := by
    rintro e h ⟨f, rfl⟩
    unfold F18.PJ9
    refine getK_le fun w1 g1 => ?_
    rw [EF_get (by decide)] at g1
    refine intK_le fun n156 z231 => ?_
    subst z231
    refine getK_le fun w2 g2 => ?_
    rw [EF_get (by decide)] at g2
    refine ptrK_le fun p157 o157 z232 => ?_
    subst z232
    refine getK_le fun w6 g6 => ?_
    rw [EF_get (by decide)] at g6
    refine funK_le fun q159 q160 z233 => ?_
    subst z233
    refine nilK_le fun z234 => ?_
    subst z234
    refine consK_le fun x161 q162 z235 => ?_
    subst z235
    refine ptrK_le fun p163 o163 z236 => ?_
    subst z236
    refine nilK_le fun z237 => ?_
    subst z237
    refine getK_le fun w7 g7 => ?_
    rw [EF_get (by decide)] at g7
    refine sliceK_le fun a164 l164 c164 z238 => ?_
    subst z238
    refine getK_le fun w8 g8 => ?_
    rw [EF_get (by decide)] at g8
    refine intK_le fun n165 z239 => ?_
    subst z239
    have hr := F18.RJ9 call lf ro kb8 f n156 p157 o157 p163 o163 a164 l164 c164 n165 h
    rw [updF_same g1, updF_same g2, updF_same g6, updF_same g7, updF_same g8] at hr
    exact cut_le (H := (F18.H8 call lf ro kb8)) (J := (F18.U8 call lf ro kb8)) (F18.CKJ9 call lf ro kb8) ⟨(hd_free rfl), ⟨⟨(hd_free rfl), (fun e h hs => F18.B11 call lf ro kb8 lf e h hs)⟩, (fun e h hs => F18.BJ15 call lf ro kb8 e h hs)⟩⟩ hr

theorem F18.R8 (call : CT) (lf ro : Nat) (n : Nat) (f : Nat → Option Value) (n16 : Int) (p17 : Nat) (o17 : Nat) (p18 : Nat) (o18 : Nat) (a19 : Option Addr) (l19 : Nat) (c19 : Nat) (n20 : Int) (h21 : Heap) :
    execH Tryd.prog call ro (F18.H8 call lf ro (F18.L8 call lf ro n)) (F18.U8 call lf ro (F18.L8 call lf ro n)) (sub (codeOf Tryd.f18) [true, true, true, true, false, true, false, false]) (EF 69 (updF (updF (updF (updF (updF f 1 (some (.int .i64 n16))) 2 (some (.pointer (some ⟨p17, o17, none⟩)))) 6 (some (.func (.func 44) #[] #[.pointer (some ⟨p18, o18, none⟩)]))) 7 (some (.slice a19 l19 c19))) 8 (some (.int .i64 n20)))) h21 (outK (F18.P8 (F18.L8 call lf ro n)) (fun i e h => F18.C8 call lf ro (.exit i e h)) (fun e h => F18.C8 call lf ro (.ret e h))) = F18.L8 call lf ro (n + 1) n16 p17 o17 p18 o18 a19 l19 c19 n20 h21 := by kernel_rfl

theorem F18.CK8 (call : CT) (lf ro : Nat) : KLe 69 (F18.C8 call lf ro) (F18.K8 call lf ro) :=
  (KLe.block (KLe.seq (H := (F18.Ht call lf ro)) (J := (F18.Ut call lf ro)) (KLe.refl _) (hd_free rfl)))

theorem F18.B8 (call : CT) (lf ro : Nat) : ∀ n e h, Shaped 69 e → LeO (F18.P8 (F18.L8 call lf ro n) e h) (loopK (execK Tryd.prog call lf ro (sub (codeOf Tryd.f18) [true, true, true, true, false, true, false, false])) n e h (F18.K8 call lf ro)) := by
  refine loop_le (fun e h k k' hs hk => execK_mono _ e h k k' hs hk) (kb := fun n => F18.P8 (F18.L8 call lf ro n)) (kx := fun i e h => F18.C8 call lf ro (.exit i e h)) (kr := fun e h => F18.C8 call lf ro (.ret e h)) ?_ ?_ (fun i e h hs => (F18.CK8 call lf ro).exit i e h hs) (fun e h hs => (F18.CK8 call lf ro).ret e h hs)
  · rintro e h ⟨f, rfl⟩
    unfold F18.P8
    refine getK_le fun w1 g1 => ?_
    rw [EF_get (by decide)] at g1
    refine intK_le fun n172 z249 => ?_
    subst z249
    refine getK_le fun w2 g2 => ?_
    rw [EF_get (by decide)] at g2
    refine ptrK_le fun p173 o173 z250 => ?_
    subst z250
    refine getK_le fun w6 g6 => ?_
    rw [EF_get (by decide)] at g6
    refine funK_le fun q175 q176 z251 => ?_
    subst z251
    refine nilK_le fun z252 => ?_
    subst z252
    refine consK_le fun x177 q178 z253 => ?_
    subst z253
    refine ptrK_le fun p179 o179 z254 => ?_
    subst z254
    refine nilK_le fun z255 => ?_
    subst z255
    refine getK_le fun w7 g7 => ?_
    rw [EF_get (by decide)] at g7
    refine sliceK_le fun a180 l180 c180 z256 => ?_
    subst z256
    refine getK_le fun w8 g8 => ?_
    rw [EF_get (by decide)] at g8
    refine intK_le fun n181 z257 => ?_
    subst z257
    exact LeO.refl _
  · rintro n e h ⟨f, rfl⟩
    unfold F18.P8
    refine getK_le fun w1 g1 => ?_
    rw [EF_get (by decide)] at g1
    refine intK_le fun n172 z258 => ?_
    subst z258
    refine getK_le fun w2 g2 => ?_
    rw [EF_get (by decide)] at g2
    refine ptrK_le fun p173 o173 z259 => ?_
    subst z259
    refine getK_le fun w6 g6 => ?_
    rw [EF_get (by decide)] at g6
    refine funK_le fun q175 q176 z260 => ?_
    subst z260
    refine nilK_le fun z261 => ?_
    subst z261
    refine consK_le fun x177 q178 z262 => ?_
    subst z262
    refine ptrK_le fun p179 o179 z263 => ?_
    subst z263
    refine nilK_le fun z264 => ?_
    subst z264
    refine getK_le fun w7 g7 => ?_
    rw [EF_get (by decide)] at g7
    refine sliceK_le fun a180 l180 c180 z265 => ?_
    subst z265
    refine getK_le fun w8 g8 => ?_
    rw [EF_get (by decide)] at g8
    refine intK_le fun n181 z266 => ?_
    subst z266
    have hr := F18.R8 call lf ro n f n172 p173 o173 p179 o179 a180 l180 c180 n181 h
    rw [updF_same g1, updF_same g2, updF_same g6, updF_same g7, updF_same g8] at hr
    exact round_le (H := (F18.H8 call lf ro (F18.L8 call lf ro n))) (J := (F18.U8 call lf ro (F18.L8 call lf ro n))) ⟨(hd_free rfl), (fun e h hs => F18.BJ9 call lf ro (F18.L8 call lf ro n) e h hs)⟩ hr

theorem F18.RJ5 (call : CT) (lf ro : Nat) (f : Nat → Option Value) (n13 : Int) (p14 : Nat) (o14 : Nat) (h15 : Heap) :
    execH Tryd.prog call ro (F18.Ht call lf ro) (F18.Ut call lf ro) (sub (codeOf Tryd.f18) [true, true]) (EF 69 (updF (updF f 1 (some (.int .i64 n13))) 2 (some (.pointer (some ⟨p14, o14, none⟩))))) h15 (F18.CJ5 call lf ro) = F18.J5 call lf ro n13 p14 o14 h15 := by kernel_rfl

theorem F18.CKJ5 (call : CT) (lf ro : Nat) : KLe 69 (F18.CJ5 call lf ro) (F18.KJ5 call lf ro) :=
  (KLe.refl _)

theorem F18.BJ5 (call : CT) (lf ro : Nat) : ∀ e h, Shaped 69 e → LeO (F18.PJ5 (F18.J5 call lf ro) e h) (execK Tryd.prog call lf ro (sub (codeOf Tryd.f18) [true, true]) e h (F18.KJ5 call lf ro)) := by
    rintro e h ⟨f, rfl⟩
    unfold F18.PJ5
    refine getK_le fun w1 g1 => ?_
    rw [EF_get (by decide)] at g1
    refine intK_le fun n182 z267 => ?_
    subst z267
    refine getK_le fun w2 g2 => ?_
    rw [EF_get (by decide)] at g2
    refine ptrK_le fun p183 o183 z268 => ?_
    subst z268
    have hr := F18.RJ5 call lf ro f n182 p183 o183 h
    rw [updF_same g1, updF_same g2] at hr
    exact cut_le (H := (F18.Ht call lf ro)) (J := (F18.Ut call lf ro)) (F18.CKJ5 call lf ro) ⟨(hd_free rfl), ⟨(hd_free rfl), ⟨⟨(hd_free rfl), (fun e h hs => F18.B8 call lf ro  lf e h hs)⟩, (hd_free rfl)⟩⟩⟩ hr

theorem F18.RJ2 (call : CT) (lf ro : Nat) (f : Nat → Option Value) (n3 : Int) (p4 : Nat) (o4 : Nat) (b5 : Bool) (h6 : Heap) :
    execH Tryd.prog call ro (F18.Ht call lf ro) (F18.Ut call lf ro) (sub (codeOf Tryd.f18) [true, false, false, true]) (EF 69 (updF (updF (updF f 1 (some (.int .i64 n3))) 2 (some (.pointer (some ⟨p4, o4, none⟩)))) 11 (some (.bool b5)))) h6 (F18.CJ2 call lf ro) = F18.J2 call lf ro n3 p4 o4 b5 h6 := by kernel_rfl

theorem F18.CKJ2 (call : CT) (lf ro : Nat) : KLe 69 (F18.CJ2 call lf ro) (F18.KJ2 call lf ro) :=
  (KLe.block (KLe.seq (H := (F18.Ht call lf ro)) (J := (F18.Ut call lf ro)) (KLe.refl _) (fun e h hs => F18.BJ5 call lf ro  e h hs)))

theorem F18.BJ2 (call : CT) (lf ro : Nat) : ∀ e h, Shaped 69 e → LeO (F18.PJ2 (F18.J2 call lf ro) e h) (execK Tryd.prog call lf ro (sub (codeOf Tryd.f18) [true, false, false, true]) e h (F18.KJ2 call lf ro)) := by
    rintro e h ⟨f, rfl⟩
    unfold F18.PJ2
    refine getK_le fun w1 g1 => ?_
    rw [EF_get (by decide)] at g1
    refine intK_le fun n184 z271 => ?_
    subst z271
    refine getK_le fun w2 g2 => ?_
    rw [EF_get (by decide)] at g2
    refine ptrK_le fun p185 o185 z272 => ?_
    subst z272
    refine getK_le fun w11 g11 => ?_
    rw [EF_get (by decide)] at g11
    refine boolK_le fun b186 z273 => ?_
    subst z273
    have hr := F18.RJ2 call lf ro f n184 p185 o185 b186 h
    rw [updF_same g1, updF_same g2, updF_same g11] at hr
    exact cut_le (H := (F18.Ht call lf ro)) (J := (F18.Ut call lf ro)) (F18.CKJ2 call lf ro) (hd_free rfl) hr

theorem F18.le (call : CT) (lf ro : Nat) (ax0 : Option Addr) (lx0 : Nat) (cx0 : Nat) (x1 : Int) (h : Heap) : LeO (F18.t call lf ro ax0 lx0 cx0 x1 h) (bodyK Tryd.prog call lf ro Tryd.f18 [.slice ax0 lx0 cx0, .int .i64 x1] h) :=
  body_le (c := codeOf Tryd.f18) (H := F18.Ht call lf ro) (J := F18.Ut call lf ro) rfl (Nat.le_of_ble_eq_true rfl) ⟨(hd_free rfl), ⟨⟨(hd_free rfl), (fun e h hs => F18.BJ2 call lf ro  e h hs)⟩, (fun e h hs => F18.BJ5 call lf ro  e h hs)⟩⟩ (by kernel_rfl)

/-! ### barscan/aztext.Unstuff$1: function 46 -/

noncomputable def F46.t (call : CT) (lf ro : Nat) (x0 : Int) (py0 : Nat) (oy0 : Nat) (h : Heap) : Out :=
  letJ (fun (b7 : Bool) (h8 : Heap) =>
  (Out.ok (.bool b7) h8)) fun j9 =>
  ifK (decide (x0 < 0)) (j9 true h) (bindO (loadO Tryd.prog 3 (.pointer (some ⟨py0, oy0, none⟩)) h) fun v10 h11 =>
  intK .i64 v10 fun n12 =>
  bindO (binO Tryd.prog .shl 3 true (.int .i64 1) (.int .i64 n12) h11) fun v13 h14 =>
  intK .i64 v13 fun n15 =>
  j9 (decide (x0 ≥ n15)) h14)

noncomputable def F46.Ht (call : CT) (lf ro : Nat) (i : Nat) (e : Env) (h : Heap) : Out := .fail
noncomputable def F46.Ut (call : CT) (lf ro : Nat) (i : Nat) : Option (Env → Heap → Out) := none

theorem F46.le (call : CT) (lf ro : Nat) (x0 : Int) (py0 : Nat) (oy0 : Nat) (h : Heap) : LeO (F46.t call lf ro x0 py0 oy0 h) (bodyK Tryd.prog call lf ro Tryd.f46 [.int .i64 x0, .pointer (some ⟨py0, oy0, none⟩)] h) :=
  body_le (c := codeOf Tryd.f46) (H := F46.Ht call lf ro) (J := F46.Ut call lf ro) rfl (Nat.le_of_ble_eq_true rfl) (hd_free rfl) (by kernel_rfl)

/-! ### slices.IndexFunc[[]int,int]: function 69 -/

noncomputable def F69.J3 (call : CT) (lf ro : Nat) (kb2 : (Option Addr) → Nat → Nat → Nat → Nat → Int → Int → Heap → Out) (a6 : Option Addr) (l6 : Nat) (c6 : Nat) (p7 : Nat) (o7 : Nat) (n8 : Int) (n9 : Int) (h10 : Heap) : Out :=
  bindO (idxO Tryd.prog 35 (.slice a6 l6 c6) (.int .i64 n9) h10) fun v67 h68 =>
  bindO (loadO Tryd.prog 3 v67 h68) fun v69 h70 =>
  intK .i64 v69 fun n71 =>
  bindO (call ro 46 [.int .i64 n71, .pointer (some ⟨p7, o7, none⟩)] h70) fun v72 h73 =>
  boolK v72 fun b74 =>
  ifK b74 (Out.ok (.int .i64 n9) h73) (kb2 a6 l6 c6 p7 o7 n8 (IntKind.i64.wrap (n9 + 1)) h73)

noncomputable def F69.PJ3 (kb : (Option Addr) → Nat → Nat → Nat → Nat → Int → Int → Heap → Out) (e : Env) (h : Heap) : Out :=
  getK (e.get 0) fun w0 =>
  sliceK w0 fun a75 l75 c75 =>
  getK (e.get 1) fun w1 =>
  funK 46 w1 fun q77 q78 =>
  nilK q77 <|
  consK q78 fun x79 q80 =>
  ptrK x79 fun p81 o81 =>
  nilK q80 <|
  getK (e.get 7) fun w7 =>
  intK .i64 w7 fun n82 =>
  getK (e.get 8) fun w8 =>
  intK .i64 w8 fun n83 =>
  kb a75 l75 c75 p81 o81 n82 n83 h

noncomputable def F69.L2 (call : CT) (lf ro : Nat) : Nat → (Option Addr) → Nat → Nat → Nat → Nat → Int → Int → Heap → Out
  | 0, _, _, _, _, _, _, _, _ => .fail
  | n + 1, a1, l1, c1, p2, o2, n3, n4, h5 =>
  ifK (decide (n4 < n3)) (F69.J3 call lf ro (F69.L2 call lf ro n) a1 l1 c1 p2 o2 n3 n4 h5) (Out.ok (.int .i64 (-1)) h5)

noncomputable def F69.P2 (kb : (Option Addr) → Nat → Nat → Nat → Nat → Int → Int → Heap → Out) (e : Env) (h : Heap) : Out :=
  getK (e.get 0) fun w0 =>
  sliceK w0 fun a84 l84 c84 =>
  getK (e.get 1) fun w1 =>
  funK 46 w1 fun q86 q87 =>
  nilK q86 <|
  consK q87 fun x88 q89 =>
  ptrK x88 fun p90 o90 =>
  nilK q89 <|
  getK (e.get 7) fun w7 =>
  intK .i64 w7 fun n91 =>
  getK (e.get 8) fun w8 =>
  intK .i64 w8 fun n92 =>
  kb a84 l84 c84 p90 o90 n91 n92 h

noncomputable def F69.t (call : CT) (lf ro : Nat) (ax0 : Option Addr) (lx0 : Nat) (cx0 : Nat) (px1_0 : Nat) (ox1_0 : Nat) (h : Heap) : Out :=
  F69.L2 call lf ro lf ax0 lx0 cx0 px1_0 ox1_0 (lx0 : Int) 0 h

noncomputable def F69.Ht (call : CT) (lf ro : Nat) (i : Nat) (e : Env) (h : Heap) : Out := ifK (i == 2) (F69.P2 (F69.L2 call lf ro lf) e h) (.fail)
noncomputable def F69.Ut (call : CT) (lf ro : Nat) (i : Nat) : Option (Env → Heap → Out) := none

noncomputable def F69.H2 (call : CT) (lf ro : Nat) (kb2 : (Option Addr) → Nat → Nat → Nat → Nat → Int → Int → Heap → Out) (i : Nat) (e : Env) (h : Heap) : Out := ifK (i == 2) (F69.P2 (F69.L2 call lf ro lf) e h) (.fail)
noncomputable def F69.U2 (call : CT) (lf ro : Nat) (kb2 : (Option Addr) → Nat → Nat → Nat → Nat → Int → Int → Heap → Out) (i : Nat) : Option (Env → Heap → Out) := ifJ (i == 3) (some (F69.PJ3 (F69.J3 call lf ro kb2))) (none)

noncomputable def F69.C2 (call : CT) (lf ro : Nat) : COut → Out := blockK 0 (seqH Tryd.prog call ro (F69.Ht call lf ro) (F69.Ut call lf ro) (sub (codeOf Tryd.f69) [true, true]) (endK Tryd.prog Tryd.f69))

noncomputable def F69.K2 (call : CT) (lf ro : Nat) : COut → Out := blockK 0 (seqK Tryd.prog call lf ro (sub (codeOf Tryd.f69) [true, true]) (endK Tryd.prog Tryd.f69))

noncomputable def F69.CJ3 (call : CT) (lf ro : Nat) (kb2 : (Option Addr) → Nat → Nat → Nat → Nat → Int → Int → Heap → Out) : COut → Out := outK (F69.P2 kb2) (fun i e h => F69.C2 call lf ro (.exit i e h)) (fun e h => F69.C2 call lf ro (.ret e h))

noncomputable def F69.KJ3 (call : CT) (lf ro : Nat) (kb2 : (Option Addr) → Nat → Nat → Nat → Nat → Int → Int → Heap → Out) : COut → Out := outK (F69.P2 kb2) (fun i e h => F69.C2 call lf ro (.exit i e h)) (fun e h => F69.C2 call lf ro (.ret e h))

theorem F69.RJ3 (call : CT) (lf ro : Nat) (kb2 : (Option Addr) → Nat → Nat → Nat → Nat → Int → Int → Heap → Out) (f : Nat → Option Value) (a6 : Option Addr) (l6 : Nat) (c6 : Nat) (p7 : Nat) (o7 : Nat) (n8 : Int) (n9 : Int) (h10 : Heap) :
    execH Tryd.prog call ro (F69.H2 call lf ro kb2) (F69.U2 call lf ro kb2) (sub (codeOf Tryd.f69) [true, false, true, false, false, true, true]) (EF 19 (updF (updF (updF (updF f 0 (some (.slice a6 l6 c6))) 1 (some (.func (.func 46) #[] #[.pointer (some ⟨p7, o7, none⟩)]))) 7 (some (.int .i64 n8))) 8 (some (.int .i64 n9)))) h10 (F69.CJ3 call lf ro kb2) = F69.J3 call lf ro kb2 a6 l6 c6 p7 o7 n8 n9 h10 := by kernel_rfl

theorem F69.CKJ3 (call : CT) (lf ro : Nat) (kb2 : (Option Addr) → Nat → Nat → Nat → Nat → Int → Int → Heap → Out) : KLe 19 (F69.CJ3 call lf ro kb2) (F69.KJ3 call lf ro kb2) :=
  (KLe.refl _)

theorem F69.BJ3 (call : CT) (lf ro : Nat) (kb2 : (Option Addr) → Nat → Nat → Nat → Nat → Int → Int → Heap → Out) : ∀ e h, Shaped 19 e → LeO (F69.PJ3 (F69.J3 call lf ro kb2) e h) (execK Tryd.prog call lf ro (sub (codeOf Tryd.f69) [true, false, true, false, false, true, true]) e h (F69.KJ3 call lf ro kb2)) := by
    rintro e h ⟨f, rfl⟩
    unfold F69.PJ3
    refine getK_le fun w0 g0 => ?_
    rw [EF_get (by decide)] at g0
    refine sliceK_le fun a75 l75 c75 z93 => ?_
    subst z93
    refine getK_le fun w1 g1 => ?_
    rw [EF_get (by decide)] at g1
    refine funK_le fun q77 q78 z94 => ?_
    subst z94
    refine nilK_le fun z95 => ?_
    subst z95
    refine consK_le fun x79 q80 z96 => ?_
    subst z96
    refine ptrK_le fun p81 o81 z97 => ?_
    subst z97
    refine nilK_le fun z98 => ?_
    subst z98
    refine getK_le fun w7 g7 => ?_
    rw [EF_get (by decide)] at g7
    refine intK_le fun n82 z99 => ?_
    subst z99
    refine getK_le fun w8 g8 => ?_
    rw [EF_get (by decide)] at g8
    refine intK_le fun n83 z100 => ?_
    subst z100
    have hr := F69.RJ3 call lf ro kb2 f a75 l75 c75 p81 o81 n82 n83 h
    rw [updF_same g0, updF_same g1, updF_same g7, updF_same g8] at hr
    exact cut_le (H := (F69.H2 call lf ro kb2)) (J := (F69.U2 call lf ro kb2)) (F69.CKJ3 call lf ro kb2) (hd_free rfl) hr

theorem F69.R2 (call : CT) (lf ro : Nat) (n : Nat) (f : Nat → Option Value) (a1 : Option Addr) (l1 : Nat) (c1 : Nat) (p2 : Nat) (o2 : Nat) (n3 : Int) (n4 : Int) (h5 : Heap) :
    execH Tryd.prog call ro (F69.H2 call lf ro (F69.L2 call lf ro n)) (F69.U2 call lf ro (F69.L2 call lf ro n)) (sub (codeOf Tryd.f69) [true, false, true, false, false]) (EF 19 (updF (updF (updF (updF f 0 (some (.slice a1 l1 c1))) 1 (some (.func (.func 46) #[] #[.pointer (some ⟨p2, o2, none⟩)]))) 7 (some (.int .i64 n3))) 8 (some (.int .i64 n4)))) h5 (outK (F69.P2 (F69.L2 call lf ro n)) (fun i e h => F69.C2 call lf ro (.exit i e h)) (fun e h => F69.C2 call lf ro (.ret e h))) = F69.L2 call lf ro (n + 1) a1 l1 c1 p2 o2 n3 n4 h5 := by kernel_rfl

theorem F69.CK2 (call : CT) (lf ro : Nat) : KLe 19 (F69.C2 call lf ro) (F69.K2 call lf ro) :=
  (KLe.block (KLe.seq (H := (F69.Ht call lf ro)) (J := (F69.Ut call lf ro)) (KLe.refl _) (hd_free rfl)))

theorem F69.B2 (call : CT) (lf ro : Nat) : ∀ n e h, Shaped 19 e → LeO (F69.P2 (F69.L2 call lf ro n) e h) (loopK (execK Tryd.prog call lf ro (sub (codeOf Tryd.f69) [true, false, true, false, false])) n e h (F69.K2 call lf ro)) := by
  refine loop_le (fun e h k k' hs hk => execK_mono _ e h k k' hs hk) (kb := fun n => F69.P2 (F69.L2 call lf ro n)) (kx := fun i e h => F69.C2 call lf ro (.exit i e h)) (kr := fun e h => F69.C2 call lf ro (.ret e h)) ?_ ?_ (fun i e h hs => (F69.CK2 call lf ro).exit i e h hs) (fun e h hs => (F69.CK2 call lf ro).ret e h hs)
  · rintro e h ⟨f, rfl⟩
    unfold F69.P2
    refine getK_le fun w0 g0 => ?_
    rw [EF_get (by decide)] at g0
    refine sliceK_le fun a84 l84 c84 z109 => ?_
    subst z109
    refine getK_le fun w1 g1 => ?_
    rw [EF_get (by decide)] at g1
    refine funK_le fun q86 q87 z110 => ?_
    subst z110
    refine nilK_le fun z111 => ?_
    subst z111
    refine consK_le fun x88 q89 z112 => ?_
    subst z112
    refine ptrK_le fun p90 o90 z113 => ?_
    subst z113
    refine nilK_le fun z114 => ?_
    subst z114
    refine getK_le fun w7 g7 => ?_
    rw [EF_get (by decide)] at g7
    refine intK_le fun n91 z115 => ?_
    subst z115
    refine getK_le fun w8 g8 => ?_
    rw [EF_get (by decide)] at g8
    refine intK_le fun n92 z116 => ?_
    subst z116
    exact LeO.refl _
  · rintro n e h ⟨f, rfl⟩
    unfold F69.P2
    refine getK_le fun w0 g0 => ?_
    rw [EF_get (by decide)] at g0
    refine sliceK_le fun a84 l84 c84 z117 => ?_
    subst z117
    refine getK_le fun w1 g1 => ?_
    rw [EF_get (by decide)] at g1
    refine funK_le fun q86 q87 z118 => ?_
    subst z118
    refine nilK_le fun z119 => ?_
    subst z119
    refine consK_le fun x88 q89 z120 => ?_
    subst z120
    refine ptrK_le fun p90 o90 z121 => ?_
    subst z121
    refine nilK_le fun z122 => ?_
    subst z122
    refine getK_le fun w7 g7 => ?_
    rw [EF_get (by decide)] at g7
    refine intK_le fun n91 z123 => ?_
    subst z123
    refine getK_le fun w8 g8 => ?_
    rw [EF_get (by decide)] at g8
    refine intK_le fun n92 z124 => ?_
    subst z124
    have hr := F69.R2 call lf ro n f a84 l84 c84 p90 o90 n91 n92 h
    rw [updF_same g0, updF_same g1, updF_same g7, updF_same g8] at hr
    exact round_le (H := (F69.H2 call lf ro (F69.L2 call lf ro n))) (J := (F69.U2 call lf ro (F69.L2 call lf ro n))) ⟨(hd_free rfl), ⟨(hd_free rfl), (fun e h hs => F69.BJ3 call lf ro (F69.L2 call lf ro n) e h hs)⟩⟩ hr

theorem F69.le (call : CT) (lf ro : Nat) (ax0 : Option Addr) (lx0 : Nat) (cx0 : Nat) (px1_0 : Nat) (ox1_0 : Nat) (h : Heap) : LeO (F69.t call lf ro ax0 lx0 cx0 px1_0 ox1_0 h) (bodyK Tryd.prog call lf ro Tryd.f69 [.slice ax0 lx0 cx0, .func (.func 46) #[] #[.pointer (some ⟨px1_0, ox1_0, none⟩)]] h) :=
  body_le (c := codeOf Tryd.f69) (H := F69.Ht call lf ro) (J := F69.Ut call lf ro) rfl (Nat.le_of_ble_eq_true rfl) ⟨(hd_free rfl), ⟨⟨(hd_free rfl), (fun e h hs => F69.B2 call lf ro  lf e h hs)⟩, (hd_free rfl)⟩⟩ (by kernel_rfl)

/-! ### slices.ContainsFunc[[]int,int]: function 45 -/

noncomputable def F45.t (call : CT) (lf ro : Nat) (ax0 : Option Addr) (lx0 : Nat) (cx0 : Nat) (px1_0 : Nat) (ox1_0 : Nat) (h : Heap) : Out :=
  bindO (call ro 69 [.slice ax0 lx0 cx0, .func (.func 46) #[] #[.pointer (some ⟨px1_0, ox1_0, none⟩)]] h) fun v4 h5 =>
  intK .i64 v4 fun n6 =>
  Out.ok (.bool (decide (n6 ≥ 0))) h5

noncomputable def F45.Ht (call : CT) (lf ro : Nat) (i : Nat) (e : Env) (h : Heap) : Out := .fail
noncomputable def F45.Ut (call : CT) (lf ro : Nat) (i : Nat) : Option (Env → Heap → Out) := none

theorem F45.le (call : CT) (lf ro : Nat) (ax0 : Option Addr) (lx0 : Nat) (cx0 : Nat) (px1_0 : Nat) (ox1_0 : Nat) (h : Heap) : LeO (F45.t call lf ro ax0 lx0 cx0 px1_0 ox1_0 h) (bodyK Tryd.prog call lf ro Tryd.f45 [.slice ax0 lx0 cx0, .func (.func 46) #[] #[.pointer (some ⟨px1_0, ox1_0, none⟩)]] h) :=
  body_le (c := codeOf Tryd.f45) (H := F45.Ht call lf ro) (J := F45.Ut call lf ro) rfl (Nat.le_of_ble_eq_true rfl) (hd_free rfl) (by kernel_rfl)

/-! ### barscan/aztext.Unstuff: function 20 -/

noncomputable def F20.L15 (call : CT) (lf ro : Nat) (kb7 : Nat → Nat → (Option Addr) → Nat → Nat → (Option Addr) → Nat → Nat → Int → Int → Heap → Out) : Nat → Nat → Nat → (Option Addr) → Nat → Nat → Int → Int → Int → (Option Addr) → Nat → Nat → Int → Int → Heap → Out
  | 0, _, _, _, _, _, _, _, _, _, _, _, _, _, _ => .fail
  | n + 1, p94, o94, a95, l95, c95, n96, n97, n98, a99, l99, c99, n100, n101, h102 =>
  letJ ((kb7 p94 o94 a95 l95 c95 a99 l99 c99 n100 (IntKind.i64.wrap (n101 + 1)) h102)) fun j253 =>
  ifK (decide (n98 ≥ n97)) (bindO (binO Tryd.prog .shr 3 false (.int .i64 n96) (.int .i64 n98) h102) fun v268 h269 =>
  intK .i64 v268 fun n270 =>
  pushJ h269 1 [.bool ((bAnd .i64 n270 1) == 1)] fun h271 =>
  bindO (appO Tryd.prog ro 24 24 (.slice a95 l95 c95) (.slice (some ⟨h269.next, 0, none⟩) 1 1) h271) fun v272 h273 =>
  sliceK v272 fun a274 l274 c274 =>
  F20.L15 call lf ro kb7 n p94 o94 a274 l274 c274 n96 n97 (IntKind.i64.wrap (n98 - 1)) a99 l99 c99 n100 n101 h273) (j253)

noncomputable def F20.P15 (kb : Nat → Nat → (Option Addr) → Nat → Nat → Int → Int → Int → (Option Addr) → Nat → Nat → Int → Int → Heap → Out) (e : Env) (h : Heap) : Out :=
  getK (e.get 3) fun w3 =>
  ptrK w3 fun p275 o275 =>
  getK (e.get 6) fun w6 =>
  sliceK w6 fun a276 l276 c276 =>
  getK (e.get 8) fun w8 =>
  intK .i64 w8 fun n277 =>
  getK (e.get 9) fun w9 =>
  intK .i64 w9 fun n278 =>
  getK (e.get 10) fun w10 =>
  intK .i64 w10 fun n279 =>
  getK (e.get 27) fun w27 =>
  sliceK w27 fun a280 l280 c280 =>
  getK (e.get 28) fun w28 =>
  intK .i64 w28 fun n281 =>
  getK (e.get 29) fun w29 =>
  intK .i64 w29 fun n282 =>
  kb p275 o275 a276 l276 c276 n277 n278 n279 a280 l280 c280 n281 n282 h

noncomputable def F20.J14 (call : CT) (lf ro : Nat) (kb7 : Nat → Nat → (Option Addr) → Nat → Nat → (Option Addr) → Nat → Nat → Int → Int → Heap → Out) (p80 : Nat) (o80 : Nat) (a81 : Option Addr) (l81 : Nat) (c81 : Nat) (n82 : Int) (n83 : Int) (a84 : Option Addr) (l84 : Nat) (c84 : Nat) (n85 : Int) (n86 : Int) (h87 : Heap) : Out :=
  bindO (loadO Tryd.prog 3 (.pointer (some ⟨p80, o80, none⟩)) h87) fun v322 h323 =>
  intK .i64 v322 fun n324 =>
  F20.L15 call lf ro kb7 lf p80 o80 a81 l81 c81 n82 n83 (IntKind.i64.wrap (n324 - 1)) a84 l84 c84 n85 n86 h323

noncomputable def F20.PJ14 (kb : Nat → Nat → (Option Addr) → Nat → Nat → Int → Int → (Option Addr) → Nat → Nat → Int → Int → Heap → Out) (e : Env) (h : Heap) : Out :=
  getK (e.get 3) fun w3 =>
  ptrK w3 fun p325 o325 =>
  getK (e.get 6) fun w6 =>
  sliceK w6 fun a326 l326 c326 =>
  getK (e.get 8) fun w8 =>
  intK .i64 w8 fun n327 =>
  getK (e.get 9) fun w9 =>
  intK .i64 w9 fun n328 =>
  getK (e.get 27) fun w27 =>
  sliceK w27 fun a329 l329 c329 =>
  getK (e.get 28) fun w28 =>
  intK .i64 w28 fun n330 =>
  getK (e.get 29) fun w29 =>
  intK .i64 w29 fun n331 =>
  kb p325 o325 a326 l326 c326 n327 n328 a329 l329 c329 n330 n331 h

noncomputable def F20.J11 (call : CT) (lf ro : Nat) (kb7 : Nat → Nat → (Option Addr) → Nat → Nat → (Option Addr) → Nat → Nat → Int → Int → Heap → Out) (p64 : Nat) (o64 : Nat) (a65 : Option Addr) (l65 : Nat) (c65 : Nat) (n66 : Int) (a67 : Option Addr) (l67 : Nat) (c67 : Nat) (n68 : Int) (n69 : Int) (h70 : Heap) : Out :=
  letJ (fun (b434 : Bool) (h435 : Heap) =>
  (ifK b434 (F20.J14 call lf ro kb7 p64 o64 a65 l65 c65 n66 1 a67 l67 c67 n68 n69 h435) (F20.J14 call lf ro kb7 p64 o64 a65 l65 c65 n66 0 a67 l67 c67 n68 n69 h435))) fun j436 =>
  ifK (n66 == 1) (j436 true h70) (bindO (loadO Tryd.prog 3 (.pointer (some ⟨p64, o64, none⟩)) h70) fun v437 h438 =>
  intK .i64 v437 fun n439 =>
  bindO (binO Tryd.prog .shl 3 true (.int .i64 1) (.int .i64 n439) h438) fun v440 h441 =>
  intK .i64 v440 fun n442 =>
  j436 (n66 == (IntKind.i64.wrap (n442 - 2))) h441)

noncomputable def F20.PJ11 (kb : Nat → Nat → (Option Addr) → Nat → Nat → Int → (Option Addr) → Nat → Nat → Int → Int → Heap → Out) (e : Env) (h : Heap) : Out :=
  getK (e.get 3) fun w3 =>
  ptrK w3 fun p443 o443 =>
  getK (e.get 6) fun w6 =>
  sliceK w6 fun a444 l444 c444 =>
  getK (e.get 8) fun w8 =>
  intK .i64 w8 fun n445 =>
  getK (e.get 27) fun w27 =>
  sliceK w27 fun a446 l446 c446 =>
  getK (e.get 28) fun w28 =>
  intK .i64 w28 fun n447 =>
  getK (e.get 29) fun w29 =>
  intK .i64 w29 fun n448 =>
  kb p443 o443 a444 l444 c444 n445 a446 l446 c446 n447 n448 h

noncomputable def F20.J8 (call : CT) (lf ro : Nat) (kb7 : Nat → Nat → (Option Addr) → Nat → Nat → (Option Addr) → Nat → Nat → Int → Int → Heap → Out) (p39 : Nat) (o39 : Nat) (a40 : Option Addr) (l40 : Nat) (c40 : Nat) (a41 : Option Addr) (l41 : Nat) (c41 : Nat) (n42 : Int) (n43 : Int) (h44 : Heap) : Out :=
  bindO (idxO Tryd.prog 35 (.slice a41 l41 c41) (.int .i64 n43) h44) fun v510 h511 =>
  bindO (loadO Tryd.prog 3 v510 h511) fun v512 h513 =>
  intK .i64 v512 fun n514 =>
  letJ (fun (b521 : Bool) (h522 : Heap) =>
  (ifK b521 (Out.ok (.tuple #[.slice none 0 0, .int .i64 22]) h522) (F20.J11 call lf ro kb7 p39 o39 a40 l40 c40 n514 a41 l41 c41 n42 n43 h522))) fun j523 =>
  ifK (n514 == 0) (j523 true h513) (bindO (loadO Tryd.prog 3 (.pointer (some ⟨p39, o39, none⟩)) h513) fun v524 h525 =>
  intK .i64 v524 fun n526 =>
  bindO (binO Tryd.prog .shl 3 true (.int .i64 1) (.int .i64 n526) h525) fun v527 h528 =>
  intK .i64 v527 fun n529 =>
  j523 (n514 == (IntKind.i64.wrap (n529 - 1))) h528)

noncomputable def F20.PJ8 (kb : Nat → Nat → (Option Addr) → Nat → Nat → (Option Addr) → Nat → Nat → Int → Int → Heap → Out) (e : Env) (h : Heap) : Out :=
  getK (e.get 3) fun w3 =>
  ptrK w3 fun p530 o530 =>
  getK (e.get 6) fun w6 =>
  sliceK w6 fun a531 l531 c531 =>
  getK (e.get 27) fun w27 =>
  sliceK w27 fun a532 l532 c532 =>
  getK (e.get 28) fun w28 =>
  intK .i64 w28 fun n533 =>
  getK (e.get 29) fun w29 =>
  intK .i64 w29 fun n534 =>
  kb p530 o530 a531 l531 c531 a532 l532 c532 n533 n534 h

noncomputable def F20.L7 (call : CT) (lf ro : Nat) : Nat → Nat → Nat → (Option Addr) → Nat → Nat → (Option Addr) → Nat → Nat → Int → Int → Heap → Out
  | 0, _, _, _, _, _, _, _, _, _, _, _ => .fail
  | n + 1, p33, o33, a34, l34, c34, a35, l35, c35, n36, n37, h38 =>
  ifK (decide (n37 < n36)) (F20.J8 call lf ro (F20.L7 call lf ro n) p33 o33 a34 l34 c34 a35 l35 c35 n36 n37 h38) (Out.ok (.tuple #[.slice a34 l34 c34, .int .i64 0]) h38)

noncomputable def F20.P7 (kb : Nat → Nat → (Option Addr) → Nat → Nat → (Option Addr) → Nat → Nat → Int → Int → Heap → Out) (e : Env) (h : Heap) : Out :=
  getK (e.get 3) fun w3 =>
  ptrK w3 fun p535 o535 =>
  getK (e.get 6) fun w6 =>
  sliceK w6 fun a536 l536 c536 =>
  getK (e.get 27) fun w27 =>
  sliceK w27 fun a537 l537 c537 =>
  getK (e.get 28) fun w28 =>
  intK .i64 w28 fun n538 =>
  getK (e.get 29) fun w29 =>
  intK .i64 w29 fun n539 =>
  kb p535 o535 a536 l536 c536 a537 l537 c537 n538 n539 h

noncomputable def F20.J5 (call : CT) (lf ro : Nat) (a30 : Option Addr) (l30 : Nat) (c30 : Nat) (p31 : Nat) (o31 : Nat) (h32 : Heap) : Out :=
  F20.L7 call lf ro lf p31 o31 none 0 0 a30 l30 c30 (l30 : Int) 0 h32

noncomputable def F20.PJ5 (kb : (Option Addr) → Nat → Nat → Nat → Nat → Heap → Out) (e : Env) (h : Heap) : Out :=
  getK (e.get 0) fun w0 =>
  sliceK w0 fun a540 l540 c540 =>
  getK (e.get 3) fun w3 =>
  ptrK w3 fun p541 o541 =>
  kb a540 l540 c540 p541 o541 h

noncomputable def F20.J3 (call : CT) (lf ro : Nat) (a15 : Option Addr) (l15 : Nat) (c15 : Nat) (p16 : Nat) (o16 : Nat) (h17 : Heap) : Out :=
  bindO (loadO Tryd.prog 3 (.pointer (some ⟨p16, o16, none⟩)) h17) fun v24 h25 =>
  intK .i64 v24 fun n26 =>
  bindO (binO Tryd.prog .quo 3 true (.int .i64 1048576) (.int .i64 n26) h25) fun v27 h28 =>
  intK .i64 v27 fun n29 =>
  ifK (decide ((l15 : Int) > n29)) (Out.ok (.tuple #[.slice none 0 0, .int .i64 4]) h28) (F20.J5 call lf ro a15 l15 c15 p16 o16 h28)

noncomputable def F20.PJ3 (kb : (Option Addr) → Nat → Nat → Nat → Nat → Heap → Out) (e : Env) (h : Heap) : Out :=
  getK (e.get 0) fun w0 =>
  sliceK w0 fun a542 l542 c542 =>
  getK (e.get 3) fun w3 =>
  ptrK w3 fun p543 o543 =>
  kb a542 l542 c542 p543 o543 h

noncomputable def F20.t (call : CT) (lf ro : Nat) (ax0 : Option Addr) (lx0 : Nat) (cx0 : Nat) (x1 : Int) (h : Heap) : Out :=
  pushJ h 1 [.int .i64 x1] fun h2 =>
  letJ (fun (b12 : Bool) (h13 : Heap) =>
  (ifK b12 (Out.ok (.tuple #[.slice none 0 0, .int .i64 3]) h13) (F20.J3 call lf ro ax0 lx0 cx0 h.next 0 h13))) fun j14 =>
  bindO (loadO Tryd.prog 3 (.pointer (some ⟨h.next, 0, none⟩)) h2) fun v544 h545 =>
  intK .i64 v544 fun n546 =>
  ifK (decide (n546 < 2)) (j14 true h545) (bindO (loadO Tryd.prog 3 (.pointer (some ⟨h.next, 0, none⟩)) h545) fun v547 h548 =>
  intK .i64 v547 fun n549 =>
  ifK (decide (n549 > 12)) (j14 true h548) (bindO (call ro 45 [.slice ax0 lx0 cx0, .func (.func 46) #[] #[.pointer (some ⟨h.next, 0, none⟩)]] h548) fun v550 h551 =>
  boolK v550 fun b552 =>
  j14 b552 h551))

noncomputable def F20.Ht (call : CT) (lf ro : Nat) (i : Nat) (e : Env) (h : Heap) : Out := ifK (i == 7) (F20.P7 (F20.L7 call lf ro lf) e h) (.fail)
noncomputable def F20.Ut (call : CT) (lf ro : Nat) (i : Nat) : Option (Env → Heap → Out) := ifJ (i == 5) (some (F20.PJ5 (F20.J5 call lf ro))) (ifJ (i == 3) (some (F20.PJ3 (F20.J3 call lf ro))) (none))

noncomputable def F20.H15 (call : CT) (lf ro : Nat) (kb7 : Nat → Nat → (Option Addr) → Nat → Nat → (Option Addr) → Nat → Nat → Int → Int → Heap → Out) (kb15 : Nat → Nat → (Option Addr) → Nat → Nat → Int → Int → Int → (Option Addr) → Nat → Nat → Int → Int → Heap → Out) (i : Nat) (e : Env) (h : Heap) : Out := ifK (i == 15) (F20.P15 (F20.L15 call lf ro kb7 lf) e h) (ifK (i == 7) (F20.P7 (F20.L7 call lf ro lf) e h) (.fail))
noncomputable def F20.U15 (call : CT) (lf ro : Nat) (kb7 : Nat → Nat → (Option Addr) → Nat → Nat → (Option Addr) → Nat → Nat → Int → Int → Heap → Out) (kb15 : Nat → Nat → (Option Addr) → Nat → Nat → Int → Int → Int → (Option Addr) → Nat → Nat → Int → Int → Heap → Out) (i : Nat) : Option (Env → Heap → Out) := ifJ (i == 14) (some (F20.PJ14 (F20.J14 call lf ro kb7))) (ifJ (i == 11) (some (F20.PJ11 (F20.J11 call lf ro kb7))) (ifJ (i == 8) (some (F20.PJ8 (F20.J8 call lf ro kb7))) (ifJ (i == 5) (some (F20.PJ5 (F20.J5 call lf ro))) (ifJ (i == 3) (some (F20.PJ3 (F20.J3 call lf ro))) (none)))))

noncomputable def F20.H7 (call : CT) (lf ro : Nat) (kb7 : Nat → Nat → (Option Addr) → Nat → Nat → (Option Addr) → Nat → Nat → Int → Int → Heap → Out) (i : Nat) (e : Env) (h : Heap) : Out := ifK (i == 15) (F20.P15 (F20.L15 call lf ro kb7 lf) e h) (ifK (i == 7) (F20.P7 (F20.L7 call lf ro lf) e h) (.fail))
noncomputable def F20.U7 (call : CT) (lf ro : Nat) (kb7 : Nat → Nat → (Option Addr) → Nat → Nat → (Option Addr) → Nat → Nat → Int → Int → Heap → Out) (i : Nat) : Option (Env → Heap → Out) := ifJ (i == 14) (some (F20.PJ14 (F20.J14 call lf ro kb7))) (ifJ (i == 11) (some (F20.PJ11 (F20.J11 call lf ro kb7))) (ifJ (i == 8) (some (F20.PJ8 (F20.J8 call lf ro kb7))) (ifJ (i == 5) (some (F20.PJ5 (F20.J5 call lf ro))) (ifJ (i == 3) (some (F20.PJ3 (F20.J3 call lf ro))) (none)))))

noncomputable def F20.C7 (call : CT) (lf ro : Nat) : COut → Out := blockK 0 (seqH Tryd.prog call ro (F20.Ht call lf ro) (F20.Ut call lf ro) (sub (codeOf Tryd.f20) [true, true, true, true, true]) (endK Tryd.prog Tryd.f20))

noncomputable def F20.K7 (call : CT) (lf ro : Nat) : COut → Out := blockK 0 (seqK Tryd.prog call lf ro (sub (codeOf Tryd.f20) [true, true, true, true, true]) (endK Tryd.prog Tryd.f20))

noncomputable def F20.CJ5 (call : CT) (lf ro : Nat) : COut → Out := endK Tryd.prog Tryd.f20

noncomputable def F20.KJ5 (call : CT) (lf ro : Nat) : COut → Out := endK Tryd.prog Tryd.f20

noncomputable def F20.CJ3 (call : CT) (lf ro : Nat) : COut → Out := endK Tryd.prog Tryd.f20

noncomputable def F20.KJ3 (call : CT) (lf ro : Nat) : COut → Out := endK Tryd.prog Tryd.f20

noncomputable def F20.C15 (call : CT) (lf ro : Nat) (kb7 : Nat → Nat → (Option Addr) → Nat → Nat → (Option Addr) → Nat → Nat → Int → Int → Heap → Out) : COut → Out := blockK 2 (blockK 1 (seqH Tryd.prog call ro (F20.H7 call lf ro kb7) (F20.U7 call lf ro kb7) (sub (codeOf Tryd.f20) [true, true, true, true, false, true, false, false, true, true, true]) (outK (F20.P7 kb7) (fun i e h => F20.C7 call lf ro (.exit i e h)) (fun e h => F20.C7 call lf ro (.ret e h)))))

noncomputable def F20.K15 (call : CT) (lf ro : Nat) (kb7 : Nat → Nat → (Option Addr) → Nat → Nat → (Option Addr) → Nat → Nat → Int → Int → Heap → Out) : COut → Out := blockK 2 (blockK 1 (seqK Tryd.prog call lf ro (sub (codeOf Tryd.f20) [true, true, true, true, false, true, false, false, true, true, true]) (outK (F20.P7 kb7) (fun i e h => F20.C7 call lf ro (.exit i e h)) (fun e h => F20.C7 call lf ro (.ret e h)))))

noncomputable def F20.CJ14 (call : CT) (lf ro : Nat) (kb7 : Nat → Nat → (Option Addr) → Nat → Nat → (Option Addr) → Nat → Nat → Int → Int → Heap → Out) : COut → Out := blockK 1 (seqH Tryd.prog call ro (F20.H7 call lf ro kb7) (F20.U7 call lf ro kb7) (sub (codeOf Tryd.f20) [true, true, true, true, false, true, false, false, true, true, true]) (outK (F20.P7 kb7) (fun i e h => F20.C7 call lf ro (.exit i e h)) (fun e h => F20.C7 call lf ro (.ret e h))))

noncomputable def F20.KJ14 (call : CT) (lf ro : Nat) (kb7 : Nat → Nat → (Option Addr) → Nat → Nat → (Option Addr) → Nat → Nat → Int → Int → Heap → Out) : COut → Out := blockK 1 (seqK Tryd.prog call lf ro (sub (codeOf Tryd.f20) [true, true, true, true, false, true, false, false, true, true, true]) (outK (F20.P7 kb7) (fun i e h => F20.C7 call lf ro (.exit i e h)) (fun e h => F20.C7 call lf ro (.ret e h))))

noncomputable def F20.CJ11 (call : CT) (lf ro : Nat) (kb7 : Nat → Nat → (Option Addr) → Nat → Nat → (Option Addr) → Nat → Nat → Int → Int → Heap → Out) : COut → Out := blockK 1 (seqH Tryd.prog call ro (F20.H7 call lf ro kb7) (F20.U7 call lf ro kb7) (sub (codeOf Tryd.f20) [true, true, true, true, false, true, false, false, true, true, true]) (outK (F20.P7 kb7) (fun i e h => F20.C7 call lf ro (.exit i e h)) (fun e h => F20.C7 call lf ro (.ret e h))))

noncomputable def F20.KJ11 (call : CT) (lf ro : Nat) (kb7 : Nat → Nat → (Option Addr) → Nat → Nat → (Option Addr) → Nat → Nat → Int → Int → Heap → Out) : COut → Out := blockK 1 (seqK Tryd.prog call lf ro (sub (codeOf Tryd.f20) [true, true, true, true, false, true, false, false, true, true, true]) (outK (F20.P7 kb7) (fun i e h => F20.C7 call lf ro (.exit i e h)) (fun e h => F20.C7 call lf ro (.ret e h))))

noncomputable def F20.CJ8 (call : CT) (lf ro : Nat) (kb7 : Nat → Nat → (Option Addr) → Nat → Nat → (Option Addr) → Nat → Nat → Int → Int → Heap → Out) : COut → Out := outK (F20.P7 kb7) (fun i e h => F20.C7 call lf ro (.exit i e h)) (fun e h => F20.C7 call lf ro (.ret e h))

noncomputable def F20.KJ8 (call : CT) (lf ro : Nat) (kb7 : Nat → Nat → (Option Addr) → Nat → Nat → (Option Addr) → Nat → Nat → Int → Int → Heap → Out) : COut → Out := outK (F20.P7 kb7) (fun i e h => F20.C7 call lf ro (.exit i e h)) (fun e h => F20.C7 call lf ro (.ret e h))

theorem F20.R15 (call : CT) (lf ro : Nat) (kb7 : Nat → Nat → (Option Addr) → Nat → Nat → (Option Addr) → Nat → Nat → Int → Int → Heap → Out) (n : Nat) (f : Nat → Option Value) (p94 : Nat) (o94 : Nat) (a95 : Option Addr) (l95 : Nat) (c95 : Nat) (n96 : Int) (n97 : Int) (n98 : Int) (a99 : Option Addr) (l99 : Nat) (c99 : Nat) (n100 : Int) (n101 : Int) (h102 : Heap) :
    execH Tryd.prog call ro (F20.H15 call lf ro kb7 (F20.L15 call lf ro kb7 n)) (F20.U15 call lf ro kb7 (F20.L15 call lf ro kb7 n)) (sub (codeOf Tryd.f20) [true, true, true, true, false, true, false, false, true, true, false, false, true, true, true, true, true, false, false]) (EF 68 (updF (updF (updF (updF (updF (updF (updF (updF f 3 (some (.pointer (some ⟨p94, o94, none⟩)))) 6 (some (.slice a95 l95 c95))) 8 (some (.int .i64 n96))) 9 (some (.int .i64 n97))) 10 (some (.int .i64 n98))) 27 (some (.slice a99 l99 c99))) 28 (some (.int .i64 n100))) 29 (some (.int .i64 n101)))) h102 (outK (F20.P15 (F20.L15 call lf ro kb7 n)) (fun i e h => F20.C15 call lf ro kb7 (.exit i e h)) (fun e h => F20.C15 call lf ro kb7 (.ret e h))) = F20.L15 call lf ro kb7 (n + 1) p94 o94 a95 l95 c95 n96 n97 n98 a99 l99 c99 n100 n101 h102 := by kernel_rfl

theorem F20.CK15 (call : CT) (lf ro : Nat) (kb7 : Nat → Nat → (Option Addr) → Nat → Nat → (Option Addr) → Nat → Nat → Int → Int → Heap → Out) : KLe 68 (F20.C15 call lf ro kb7) (F20.K15 call lf ro kb7) :=
  (KLe.block (KLe.block (KLe.seq (H := (F20.H7 call lf ro kb7)) (J := (F20.U7 call lf ro kb7)) (KLe.refl _) (hd_free rfl))))

theorem F20.B15 (call : CT) (lf ro : Nat) (kb7 : Nat → Nat → (Option Addr) → Nat → Nat → (Option Addr) → Nat → Nat → Int → Int → Heap → Out) : ∀ n e h, Shaped 68 e → LeO (F20.P15 (F20.L15 call lf ro kb7 n) e h) (loopK (execK Tryd.prog call lf ro (sub (codeOf Tryd.f20) [true, true, true, true, false, true, false, false, true, true, false, false, true, true, true, true, true, false, false])) n e h (F20.K15 call lf ro kb7)) := by
  refine loop_le (fun e h k k' hs hk => execK_mono _ e h k k' hs hk) (kb := fun n => F20.P15 (F20.L15 call lf ro kb7 n)) (kx := fun i e h => F20.C15 call lf ro kb7 (.exit i e h)) (kr := fun e h => F20.C15 call lf ro kb7 (.ret e h)) ?_ ?_ (fun i e h hs => (F20.CK15 call lf ro kb7).exit i e h hs) (fun e h hs => (F20.CK15 call lf ro kb7).ret e h hs)
  · rintro e h ⟨f, rfl⟩
    unfold F20.P15
    refine getK_le fun w3 g3 => ?_
    rw [EF_get (by decide)] at g3
    refine ptrK_le fun p275 o275 z553 => ?_
    subst z553
    refine getK_le fun w6 g6 => ?_
    rw [EF_get (by decide)] at g6
    refine sliceK_le fun a276 l276 c276 z554 => ?_
    subst z554
    refine getK_le fun w8 g8 => ?_
    rw [EF_get (by decide)] at g8
    refine intK_le fun n277 z555 => ?_
    subst z555
    refine getK_le fun w9 g9 => ?_
    rw [EF_get (by decide)] at g9
    refine intK_le fun n278 z556 => ?_
    subst z556
    refine getK_le fun w10 g10 => ?_
    rw [EF_get (by decide)] at g10
    refine intK_le fun n279 z557 => ?_
    subst z557
    refine getK_le fun w27 g27 => ?_
    rw [EF_get (by decide)] at g27
    refine sliceK_le fun a280 l280 c280 z558 => ?_
    subst z558
    refine getK_le fun w28 g28 => ?_
    rw [EF_get (by decide)] at g28
    refine intK_le fun n281 z559 => ?_
    subst z559
    refine getK_le fun w29 g29 => ?_
    rw [EF_get (by decide)] at g29
    refine intK_le fun n282 z560 => ?_
    subst z560
    exact LeO.refl _
  · rintro n e h ⟨f, rfl⟩
    unfold F20.P15
    refine getK_le fun w3 g3 => ?_
    rw [EF_get (by decide)] at g3
    refine ptrK_le fun p275 o275 z561 => ?_
    subst z561
    refine getK_le fun w6 g6 => ?_
    rw [EF_get (by decide)] at g6
    refine sliceK_le fun a276 l276 c276 z562 => ?_
    subst z562
    refine getK_le fun w8 g8 => ?_
    rw [EF_get (by decide)] at g8
    refine intK_le fun n277 z563 => ?_
    subst z563
    refine getK_le fun w9 g9 => ?_
    rw [EF_get (by decide)] at g9
    refine intK_le fun n278 z564 => ?_
    subst z564
    refine getK_le fun w10 g10 => ?_
    rw [EF_get (by decide)] at g10
    refine intK_le fun n279 z565 => ?_
    subst z565
    refine getK_le fun w27 g27 => ?_
    rw [EF_get (by decide)] at g27
    refine sliceK_le fun a280 l280 c280 z566 => ?_
    subst z566
    refine getK_le fun w28 g28 => ?_
    rw [EF_get (by decide)] at g28
    refine intK_le fun n281 z567 => ?_
    subst z567
    refine getK_le fun w29 g29 => ?_
    rw [EF_get (by decide)] at g29
    refine intK_le fun n282 z568 => ?_
    subst z568
    have hr := F20.R15 call lf ro kb7 n f p275 o275 a276 l276 c276 n277 n278 n279 a280 l280 c280 n281 n282 h
    rw [updF_same g3, updF_same g6, updF_same g8, updF_same g9, updF_same g10, updF_same g27, updF_same g28, updF_same g29] at hr
    exact round_le (H := (F20.H15 call lf ro kb7 (F20.L15 call lf ro kb7 n))) (J := (F20.U15 call lf ro kb7 (F20.L15 call lf ro kb7 n))) (hd_free rfl) hr

theorem F20.RJ14 (call : CT) (lf ro : Nat) (kb7 : Nat → Nat → (Option Addr) → Nat → Nat → (Option Addr) → Nat → Nat → Int → Int → Heap → Out) (f : Nat → Option Value) (p80 : Nat) (o80 : Nat) (a81 : Option Addr) (l81 : Nat) (c81 : Nat) (n82 : Int) (n83 : Int) (a84 : Option Addr) (l84 : Nat) (c84 : Nat) (n85 : Int) (n86 : Int) (h87 : Heap) :
    execH Tryd.prog call ro (F20.H7 call lf ro kb7) (F20.U7 call lf ro kb7) (sub (codeOf Tryd.f20) [true, true, true, true, false, true, false, false, true, true, false, false, true, true, true, true]) (EF 68 (updF (updF (updF (updF (updF (updF (updF f 3 (some (.pointer (some ⟨p80, o80, none⟩)))) 6 (some (.slice a81 l81 c81))) 8 (some (.int .i64 n82))) 9 (some (.int .i64 n83))) 27 (some (.slice a84 l84 c84))) 28 (some (.int .i64 n85))) 29 (some (.int .i64 n86)))) h87 (F20.CJ14 call lf ro kb7) = F20.J14 call lf ro kb7 p80 o80 a81 l81 c81 n82 n83 a84 l84 c84 n85 n86 h87 := by kernel_rfl

theorem F20.CKJ14 (call : CT) (lf ro : Nat) (kb7 : Nat → Nat → (Option Addr) → Nat → Nat → (Option Addr) → Nat → Nat → Int → Int → Heap → Out) : KLe 68 (F20.CJ14 call lf ro kb7) (F20.KJ14 call lf ro kb7) :=
  (KLe.block (KLe.seq (H := (F20.H7 call lf ro kb7)) (J := (F20.U7 call lf ro kb7)) (KLe.refl _) (hd_free rfl)))

theorem F20.BJ14 (call : CT) (lf ro : Nat) (kb7 : Nat → Nat → (Option Addr) → Nat → Nat → (Option Addr) → Nat → Nat → Int → Int → Heap → Out) : ∀ e h, Shaped 68 e → LeO (F20.PJ14 (F20.J14 call lf ro kb7) e h) (execK Tryd.prog call lf ro (sub (codeOf Tryd.f20) [true, true, true, true, false, true, false, false, true, true, false, false, true, true, true, true]) e h (F20.KJ14 call lf ro kb7)) := by
    rintro e h ⟨f, rfl⟩
    unfold F20.PJ14
    refine getK_le fun w3 g3 => ?_
    rw [EF_get (by decide)] at g3
    refine ptrK_le fun p325 o325 z569 => ?_
    subst z569
    refine getK_le fun w6 g6 => ?_
    rw [EF_get (by decide)] at g6
    refine sliceK_le fun a326 l326 c326 z570 => ?_
    subst z570
    refine getK_le fun w8 g8 => ?_
    rw [EF_get (by decide)] at g8
    refine intK_le fun n327 z571 => ?_
    subst z571
    refine getK_le fun w9 g9 => ?_
    rw [EF_get (by decide)] at g9
    refine intK_le fun n328 z572 => ?_
    subst z572
    refine getK_le fun w27 g27 => ?_
    rw [EF_get (by decide)] at g27
    refine sliceK_le fun a329 l329 c329 z573 => ?_
    subst z573
    refine getK_le fun w28 g28 => ?_
    rw [EF_get (by decide)] at g28
    refine intK_le fun n330 z574 => ?_
    subst z574
    refine getK_le fun w29 g29 => ?_
    rw [EF_get (by decide)] at g29
    refine intK_le fun n331 z575 => ?_
    subst z575
    have hr := F20.RJ14 call lf ro kb7 f p325 o325 a326 l326 c326 n327 n328 a329 l329 c329 n330 n331 h
    rw [updF_same g3, updF_same g6, updF_same g8, updF_same g9, updF_same g27, updF_same g28, updF_same g29] at hr
    exact cut_le (H := (F20.H7 call lf ro kb7)) (J := (F20.U7 call lf ro kb7)) (F20.CKJ14 call lf ro kb7) ⟨(hd_free rfl), (fun e h hs => F20.B15 call lf ro kb7 lf e h hs)⟩ hr

theorem F20.RJ11 (call : CT) (lf ro : Nat) (kb7 : Nat → Nat → (Option Addr) → Nat → Nat → (Option Addr) → Nat → Nat → Int → Int → Heap → Out) (f : Nat → Option Value) (p64 : Nat) (o64 : Nat) (a65 : Option Addr) (l65 : Nat) (c65 : Nat) (n66 : Int) (a67 : Option Addr) (l67 : Nat) (c67 : Nat) (n68 : Int) (n69 : Int) (h70 : Heap) :
    execH Tryd.prog call ro (F20.H7 call lf ro kb7) (F20.U7 call lf ro kb7) (sub (codeOf Tryd.f20) [true, true, true, true, false, true, false, false, true, true, false, false, true, true]) (EF 68 (updF (updF (updF (updF (updF (updF f 3 (some (.pointer (some ⟨p64, o64, none⟩)))) 6 (some (.slice a65 l65 c65))) 8 (some (.int .i64 n66))) 27 (some (.slice a67 l67 c67))) 28 (some (.int .i64 n68))) 29 (some (.int .i64 n69)))) h70 (F20.CJ11 call lf ro kb7) = F20.J11 call lf ro kb7 p64 o64 a65 l65 c65 n66 a67 l67 c67 n68 n69 h70 := by kernel_rfl

theorem F20.CKJ11 (call : CT) (lf ro : Nat) (kb7 : Nat → Nat → (Option Addr) → Nat → Nat → (Option Addr) → Nat → Nat → Int → Int → Heap → Out) : KLe 68 (F20.CJ11 call lf ro kb7) (F20.KJ11 call lf ro kb7) :=
  (KLe.block (KLe.seq (H := (F20.H7 call lf ro kb7)) (J := (F20.U7 call lf ro kb7)) (KLe.refl _) (hd_free rfl)))

theorem F20.BJ11 (call : CT) (lf ro : Nat) (kb7 : Nat → Nat → (Option Addr) → Nat → Nat → (Option Addr) → Nat → Nat → Int → Int → Heap → Out) : ∀ e h, Shaped 68 e → LeO (F20.PJ11 (F20.J11 call lf ro kb7) e h) (execK Tryd.prog call lf ro (sub (codeOf Tryd.f20) [true, true, true, true, false, true, false, false, true, true, false, false, true, true]) e h (F20.KJ11 call lf ro kb7)) := by
    rintro e h ⟨f, rfl⟩
    unfold F20.PJ11
    refine getK_le fun w3 g3 => ?_
    rw [EF_get (by decide)] at g3
    refine ptrK_le fun p443 o443 z583 => ?_
    subst z583
    refine getK_le fun w6 g6 => ?_
    rw [EF_get (by decide)] at g6
    refine sliceK_le fun a444 l444 c444 z584 => ?_
    subst z584
    refine getK_le fun w8 g8 => ?_
    rw [EF_get (by decide)] at g8
    refine intK_le fun n445 z585 => ?_
    subst z585
    refine getK_le fun w27 g27 => ?_
    rw [EF_get (by decide)] at g27
    refine sliceK_le fun a446 l446 c446 z586 => ?_
    subst z586
    refine getK_le fun w28 g28 => ?_
    rw [EF_get (by decide)] at g28
    refine intK_le fun n447 z587 => ?_
    subst z587
    refine getK_le fun w29 g29 => ?_
    rw [EF_get (by decide)] at g29
    refine intK_le fun n448 z588 => ?_
    subst z588
    have hr := F20.RJ11 call lf ro kb7 f p443 o443 a444 l444 c444 n445 a446 l446 c446 n447 n448 h
    rw [updF_same g3, updF_same g6, updF_same g8, updF_same g27, updF_same g28, updF_same g29] at hr
    exact cut_le (H := (F20.H7 call lf ro kb7)) (J := (F20.U7 call lf ro kb7)) (F20.CKJ11 call lf ro kb7) ⟨(hd_free rfl), ⟨(hd_free rfl), (fun e h hs => F20.BJ14 call lf ro kb7 e h hs)⟩⟩ hr

theorem F20.RJ8 (call : CT) (lf ro : Nat) (kb7 : Nat → Nat → (Option Addr) → Nat → Nat → (Option Addr) → Nat → Nat → Int → Int → Heap → Out) (f : Nat → Option Value) (p39 : Nat) (o39 : Nat) (a40 : Option Addr) (l40 : Nat) (c40 : Nat) (a41 : Option Addr) (l41 : Nat) (c41 : Nat) (n42 : Int) (n43 : Int) (h44 : Heap) :
    execH Tryd.prog call ro (F20.H7 call lf ro kb7) (F20.U7 call lf ro kb7) (sub (codeOf Tryd.f20) [true, true, true, true, false, true, false, false, true, true]) (EF 68 (updF (updF (updF (updF (updF f 3 (some (.pointer (some ⟨p39, o39, none⟩)))) 6 (some (.slice a40 l40 c40))) 27 (some (.slice a41 l41 c41))) 28 (some (.int .i64 n42))) 29 (some (.int .i64 n43)))) h44 (F20.CJ8 call lf ro kb7) = F20.J8 call lf ro kb7 p39 o39 a40 l40 c40 a41 l41 c41 n42 n43 h44 := by kernel_rfl

theorem F20.CKJ8 (call : CT) (lf ro : Nat) (kb7 : Nat → Nat → (Option Addr) → Nat → Nat → (Option Addr) → Nat → Nat → Int → Int → Heap → Out) : KLe 68 (F20.CJ8 call lf ro kb7) (F20.KJ8 call lf ro kb7) :=
  (KLe.refl _)

theorem F20.BJ8 (call : CT) (lf ro : Nat) (kb7 : Nat → Nat → (Option Addr) → Nat → Nat → (Option Addr) → Nat → Nat → Int → Int → Heap → Out) : ∀ e h, Shaped 68 e → LeO (F20.PJ8 (F20.J8 call lf ro kb7) e h) (execK Tryd.prog call lf ro (sub (codeOf Tryd.f20) [true, true, true, true, false, true, false, false, true, true]) e h (F20.KJ8 call lf ro kb7)) := by
    rintro e h ⟨f, rfl⟩
    unfold F20.PJ8
    refine getK_le fun w3 g3 => ?_
    rw [EF_get (by decide)] at g3
    refine ptrK_le fun p530 o530 z595 => ?_
    subst z595
    refine getK_le fun w6 g6 => ?_
    rw [EF_get (by decide)] at g6
    refine sliceK_le fun a531 l531 c531 z596 => ?_
    subst z596
    refine getK_le fun w27 g27 => ?_
    rw [EF_get (by decide)] at g27
    refine sliceK_le fun a532 l532 c532 z597 => ?_
    subst z597
    refine getK_le fun w28 g28 => ?_
    rw [EF_get (by decide)] at g28
    refine intK_le fun n533 z598 => ?_
    subst z598
    refine getK_le fun w29 g29 => ?_
    rw [EF_get (by decide)] at g29
    refine intK_le fun n534 z599 => ?_
    subst z599
    have hr := F20.RJ8 call lf ro kb7 f p530 o530 a531 l531 c531 a532 l532 c532 n533 n534 h
    rw [updF_same g3, updF_same g6, updF_same g27, updF_same g28, updF_same g29] at hr
    exact cut_le (H := (F20.H7 call lf ro kb7)) (J := (F20.U7 call lf ro kb7)) (F20.CKJ8 call lf ro kb7) ⟨⟨(hd_free rfl), ⟨(hd_free rfl), (fun e h hs => F20.BJ11 call lf ro kb7 e h hs)⟩⟩, (hd_free rfl)⟩ hr

theorem F20.R7 (call : CT) (lf ro : Nat) (n : Nat) (f : Nat → Option Value) (p33 : Nat) (o33 : Nat) (a34 : Option Addr) (l34 : Nat) (c34 : Nat) (a35 : Option Addr) (l35 : Nat) (c35 : Nat) (n36 : Int) (n37 : Int) (h38 : Heap) :
    execH Tryd.prog call ro (F20.H7 call lf ro (F20.L7 call lf ro n)) (F20.U7 call lf ro (F20.L7 call lf ro n)) (sub (codeOf Tryd.f20) [true, true, true, true, false, true, false, false]) (EF 68 (updF (updF (updF (updF (updF f 3 (some (.pointer (some ⟨p33, o33, none⟩)))) 6 (some (.slice a34 l34 c34))) 27 (some (.slice a35 l35 c35))) 28 (some (.int .i64 n36))) 29 (some (.int .i64 n37)))) h38 (outK (F20.P7 (F20.L7 call lf ro n)) (fun i e h => F20.C7 call lf ro (.exit i e h)) (fun e h => F20.C7 call lf ro (.ret e h))) = F20.L7 call lf ro (n + 1) p33 o33 a34 l34 c34 a35 l35 c35 n36 n37 h38 := by kernel_rfl

theorem F20.CK7 (call : CT) (lf ro : Nat) : KLe 68 (F20.C7 call lf ro) (F20.K7 call lf ro) :=
  (KLe.block (KLe.seq (H := (F20.Ht call lf ro)) (J := (F20.Ut call lf ro)) (KLe.refl _) (hd_free rfl)))

theorem F20.B7 (call : CT) (lf ro : Nat) : ∀ n e h, Shaped 68 e → LeO (F20.P7 (F20.L7 call lf ro n) e h) (loopK (execK Tryd.prog call lf ro (sub (codeOf Tryd.f20) [true, true, true, true, false, true, false, false])) n e h (F20.K7 call lf ro)) := by
  refine loop_le (fun e h k k' hs hk => execK_mono _ e h k k' hs hk) (kb := fun n => F20.P7 (F20.L7 call lf ro n)) (kx := fun i e h => F20.C7 call lf ro (.exit i e h)) (kr := fun e h => F20.C7 call lf ro (.ret e h)) ?_ ?_ (fun i e h hs => (F20.CK7 call lf ro).exit i e h hs) (fun e h hs => (F20.CK7 call lf ro).ret e h hs)
  · rintro e h ⟨f, rfl⟩
    unfold F20.P7
    refine getK_le fun w3 g3 => ?_
    rw [EF_get (by decide)] at g3
    refine ptrK_le fun p535 o535 z605 => ?_
    subst z605
    refine getK_le fun w6 g6 => ?_
    rw [EF_get (by decide)] at g6
    refine sliceK_le fun a536 l536 c536 z606 => ?_
    subst z606
    refine getK_le fun w27 g27 => ?_
    rw [EF_get (by decide)] at g27
    refine sliceK_le fun a537 l537 c537 z607 => ?_
    subst z607
    refine getK_le fun w28 g28 => ?_
    rw [EF_get (by decide)] at g28
    refine intK_le fun n538 z608 => ?_
    subst z608
    refine getK_le fun w29 g29 => ?_
    rw [EF_get (by decide)] at g29
    refine intK_le fun n539 z609 => ?_
    subst z609
    exact LeO.refl _
  · rintro n e h ⟨f, rfl⟩
    unfold F20.P7
    refine getK_le fun w3 g3 => ?_
    rw [EF_get (by decide)] at g3
    refine ptrK_le fun p535 o535 z610 => ?_
    subst z610
    refine getK_le fun w6 g6 => ?_
    rw [EF_get (by decide)] at g6
    refine sliceK_le fun a536 l536 c536 z611 => ?_
    subst z611
    refine getK_le fun w27 g27 => ?_
    rw [EF_get (by decide)] at g27
    refine sliceK_le fun a537 l537 c537 z612 => ?_
    subst z612
    refine getK_le fun w28 g28 => ?_
    rw [EF_get (by decide)] at g28
    refine intK_le fun n538 z613 => ?_
    subst z613
    refine getK_le fun w29 g29 => ?_
    rw [EF_get (by decide)] at g29
    refine intK_le fun n539 z614 => ?_
    subst z614
    have hr := F20.R7 call lf ro n f p535 o535 a536 l536 c536 a537 l537 c537 n538 n539 h
    rw [updF_same g3, updF_same g6, updF_same g27, updF_same g28, updF_same g29] at hr
    exact round_le (H := (F20.H7 call lf ro (F20.L7 call lf ro n))) (J := (F20.U7 call lf ro (F20.L7 call lf ro n))) ⟨(hd_free rfl), ⟨(hd_free rfl), (fun e h hs => F20.BJ8 call lf ro (F20.L7 call lf ro n) e h hs)⟩⟩ hr

theorem F20.RJ5 (call : CT) (lf ro : Nat) (f : Nat → Option Value) (a30 : Option Addr) (l30 : Nat) (c30 : Nat) (p31 : Nat) (o31 : Nat) (h32 : Heap) :
    execH Tryd.prog call ro (F20.Ht call lf ro) (F20.Ut call lf ro) (sub (codeOf Tryd.f20) [true, true, true]) (EF 68 (updF (updF f 0 (some (.slice a30 l30 c30))) 3 (some (.pointer (some ⟨p31, o31, none⟩))))) h32 (F20.CJ5 call lf ro) = F20.J5 call lf ro a30 l30 c30 p31 o31 h32 := by kernel_rfl

theorem F20.CKJ5 (call : CT) (lf ro : Nat) : KLe 68 (F20.CJ5 call lf ro) (F20.KJ5 call lf ro) :=
  (KLe.refl _)

theorem F20.BJ5 (call : CT) (lf ro : Nat) : ∀ e h, Shaped 68 e → LeO (F20.PJ5 (F20.J5 call lf ro) e h) (execK Tryd.prog call lf ro (sub (codeOf Tryd.f20) [true, true, true]) e h (F20.KJ5 call lf ro)) := by
    rintro e h ⟨f, rfl⟩
    unfold F20.PJ5
    refine getK_le fun w0 g0 => ?_
    rw [EF_get (by decide)] at g0
    refine sliceK_le fun a540 l540 c540 z615 => ?_
    subst z615
    refine getK_le fun w3 g3 => ?_
    rw [EF_get (by decide)] at g3
    refine ptrK_le fun p541 o541 z616 => ?_
    subst z616
    have hr := F20.RJ5 call lf ro f a540 l540 c540 p541 o541 h
    rw [updF_same g0, updF_same g3] at hr
    exact cut_le (H := (F20.Ht call lf ro)) (J := (F20.Ut call lf ro)) (F20.CKJ5 call lf ro) ⟨(hd_free rfl), ⟨⟨(hd_free rfl), (fun e h hs => F20.B7 call lf ro  lf e h hs)⟩, (hd_free rfl)⟩⟩ hr

theorem F20.RJ3 (call : CT) (lf ro : Nat) (f : Nat → Option Value) (a15 : Option Addr) (l15 : Nat) (c15 : Nat) (p16 : Nat) (o16 : Nat) (h17 : Heap) :
    execH Tryd.prog call ro (F20.Ht call lf ro) (F20.Ut call lf ro) (sub (codeOf Tryd.f20) [true, true]) (EF 68 (updF (updF f 0 (some (.slice a15 l15 c15))) 3 (some (.pointer (some ⟨p16, o16, none⟩))))) h17 (F20.CJ3 call lf ro) = F20.J3 call lf ro a15 l15 c15 p16 o16 h17 := by kernel_rfl

theorem F20.CKJ3 (call : CT) (lf ro : Nat) : KLe 68 (F20.CJ3 call lf ro) (F20.KJ3 call lf ro) :=
  (KLe.refl _)

theorem F20.BJ3 (call : CT) (lf ro : Nat) : ∀ e h, Shaped 68 e → LeO (F20.PJ3 (F20.J3 call lf ro) e h) (execK Tryd.prog call lf ro (sub (codeOf Tryd.f20) [true, true]) e h (F20.KJ3 call lf ro)) := by
    rintro e h ⟨f, rfl⟩
    unfold F20.PJ3
    refine getK_le fun w0 g0 => ?_
    rw [EF_get (by decide)] at g0
    refine sliceK_le fun a542 l542 c542 z619 => ?_
    subst z619
    refine getK_le fun w3 g3 => ?_
    rw [EF_get (by decide)] at g3
    refine ptrK_le fun p543 o543 z620 => ?_
    subst z620
    have hr := F20.RJ3 call lf ro f a542 l542 c542 p543 o543 h
    rw [updF_same g0, updF_same g3] at hr
    exact cut_le (H := (F20.Ht call lf ro)) (J := (F20.Ut call lf ro)) (F20.CKJ3 call lf ro) ⟨(hd_free rfl), (fun e h hs => F20.BJ5 call lf ro  e h hs)⟩ hr

theorem F20.le (call : CT) (lf ro : Nat) (ax0 : Option Addr) (lx0 : Nat) (cx0 : Nat) (x1 : Int) (h : Heap) : LeO (F20.t call lf ro ax0 lx0 cx0 x1 h) (bodyK Tryd.prog call lf ro Tryd.f20 [.slice ax0 lx0 cx0, .int .i64 x1] h) :=
  body_le (c := codeOf Tryd.f20) (H := F20.Ht call lf ro) (J := F20.Ut call lf ro) rfl (Nat.le_of_ble_eq_true rfl) ⟨(hd_free rfl), ⟨(hd_free rfl), (fun e h hs => F20.BJ3 call lf ro  e h hs)⟩⟩ (by kernel_rfl)

end Go.Proofs.YtfadfpcelhdfbaaDoor
