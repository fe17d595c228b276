/-
  The reference and the law, as the interpreter runs them, written out; no statement of the seat is proved in this file.
-/
import Derived.Test.YtgpnjdldpehidaaDoorProg
import Derived.KernelRfl
import Derived.Test.YtgpnjdldpehidaaDoorAbsE
open Go Go.Abs Go.Proofs
set_option maxRecDepth 100000
set_option linter.unusedVariables false
namespace Go.Proofs.YtgpnjdldpehidaaDoor

/-! ### barscan/barscanref32.known: function 29 -/

noncomputable def F29.t (call : CT) (lf ro : Nat) (x0 : Int) (h : Heap) : Out :=
  letJ (fun (b4 : Bool) (h5 : Heap) =>
  (Out.ok (.bool b4) h5)) fun j6 =>
  bindO (call ro 32 [.int .i64 x0] h) fun v7 h8 =>
  boolK v7 fun b9 =>
  ifK b9 (j6 true h8) (ifK (x0 == 4) (j6 true h8) (j6 (x0 == 5) h8))

noncomputable def F29.Ht (call : CT) (lf ro : Nat) (i : Nat) (e : Env) (h : Heap) : Out := .fail
noncomputable def F29.Ut (call : CT) (lf ro : Nat) (i : Nat) : Option (Env → Heap → Out) := none

theorem F29.le (call : CT) (lf ro : Nat) (x0 : Int) (h : Heap) : LeO (F29.t call lf ro x0 h) (bodyK Tryd.prog call lf ro Tryd.f29 [.int .i64 x0] h) :=
  body_le (c := codeOf Tryd.f29) (H := F29.Ht call lf ro) (J := F29.Ut call lf ro) rfl (Nat.le_of_ble_eq_true rfl) (hd_free rfl) (by kernel_rfl)

/-! ### barscan/barscanref32.gray: function 30 -/

noncomputable def F30.t (call : CT) (lf ro : Nat) (x0 : Int) (h : Heap) : Out :=
  letJ (fun (b1 : Bool) =>
  (Out.ok (.bool b1) h)) fun j2 =>
  ifK (x0 == 2) (j2 true) (j2 (x0 == 5))

noncomputable def F30.Ht (call : CT) (lf ro : Nat) (i : Nat) (e : Env) (h : Heap) : Out := .fail
noncomputable def F30.Ut (call : CT) (lf ro : Nat) (i : Nat) : Option (Env → Heap → Out) := none

theorem F30.le (call : CT) (lf ro : Nat) (x0 : Int) (h : Heap) : LeO (F30.t call lf ro x0 h) (bodyK Tryd.prog call lf ro Tryd.f30 [.int .i64 x0] h) :=
  body_le (c := codeOf Tryd.f30) (H := F30.Ht call lf ro) (J := F30.Ut call lf ro) rfl (Nat.le_of_ble_eq_true rfl) (hd_free rfl) (by kernel_rfl)

/-! ### barscan/barscanref32.plain: function 32 -/

noncomputable def F32.t (call : CT) (lf ro : Nat) (x0 : Int) (h : Heap) : Out :=
  letJ (fun (b1 : Bool) =>
  (Out.ok (.bool b1) h)) fun j2 =>
  ifK (x0 == 1) (j2 true) (j2 (x0 == 2))

noncomputable def F32.Ht (call : CT) (lf ro : Nat) (i : Nat) (e : Env) (h : Heap) : Out := .fail
noncomputable def F32.Ut (call : CT) (lf ro : Nat) (i : Nat) : Option (Env → Heap → Out) := none

theorem F32.le (call : CT) (lf ro : Nat) (x0 : Int) (h : Heap) : LeO (F32.t call lf ro x0 h) (bodyK Tryd.prog call lf ro Tryd.f32 [.int .i64 x0] h) :=
  body_le (c := codeOf Tryd.f32) (H := F32.Ht call lf ro) (J := F32.Ut call lf ro) rfl (Nat.le_of_ble_eq_true rfl) (hd_free rfl) (by kernel_rfl)

/-! ### barscan/barscanref32.space: function 38 -/

noncomputable def F38.t (call : CT) (lf ro : Nat) (x0 : Int) (h : Heap) : Out :=
  letJ (fun (b1 : Bool) =>
  (Out.ok (.bool b1) h)) fun j2 =>
  ifK (x0 == 32) (j2 true) (ifK (x0 == 9) (j2 true) (ifK (x0 == 10) (j2 true) (j2 (x0 == 13))))

noncomputable def F38.Ht (call : CT) (lf ro : Nat) (i : Nat) (e : Env) (h : Heap) : Out := .fail
noncomputable def F38.Ut (call : CT) (lf ro : Nat) (i : Nat) : Option (Env → Heap → Out) := none

theorem F38.le (call : CT) (lf ro : Nat) (x0 : Int) (h : Heap) : LeO (F38.t call lf ro x0 h) (bodyK Tryd.prog call lf ro Tryd.f38 [.int .u8 x0] h) :=
  body_le (c := codeOf Tryd.f38) (H := F38.Ht call lf ro) (J := F38.Ut call lf ro) rfl (Nat.le_of_ble_eq_true rfl) (hd_free rfl) (by kernel_rfl)

/-! ### barscan/barscanref32.digit: function 69 -/

noncomputable def F69.t (call : CT) (lf ro : Nat) (x0 : Int) (h : Heap) : Out :=
  letJ (fun (b1 : Bool) =>
  (Out.ok (.bool b1) h)) fun j2 =>
  ifK (decide (x0 ≥ 48)) (j2 (decide (x0 ≤ 57))) (j2 false)

noncomputable def F69.Ht (call : CT) (lf ro : Nat) (i : Nat) (e : Env) (h : Heap) : Out := .fail
noncomputable def F69.Ut (call : CT) (lf ro : Nat) (i : Nat) : Option (Env → Heap → Out) := none

theorem F69.le (call : CT) (lf ro : Nat) (x0 : Int) (h : Heap) : LeO (F69.t call lf ro x0 h) (bodyK Tryd.prog call lf ro Tryd.f69 [.int .u8 x0] h) :=
  body_le (c := codeOf Tryd.f69) (H := F69.Ht call lf ro) (J := F69.Ut call lf ro) rfl (Nat.le_of_ble_eq_true rfl) (hd_free rfl) (by kernel_rfl)

/-! ### barscan/barscanref32.scaled: function 60 -/

noncomputable def F60.t (call : CT) (lf ro : Nat) (x0 : Int) (x1 : Int) (h : Heap) : Out :=
  bindO (binO Tryd.prog .quo 3 false (.int .i64 (IntKind.i64.wrap ((IntKind.i64.wrap (255 * x0)) + (IntKind.i64.wrap (Int.tdiv x1 2))))) (.int .i64 x1) h) fun v4 h5 =>
  intK .i64 v4 fun n6 =>
  Out.ok (.int .u8 (IntKind.u8.wrap n6)) h5

noncomputable def F60.Ht (call : CT) (lf ro : Nat) (i : Nat) (e : Env) (h : Heap) : Out := .fail
noncomputable def F60.Ut (call : CT) (lf ro : Nat) (i : Nat) : Option (Env → Heap → Out) := none

theorem F60.le (call : CT) (lf ro : Nat) (x0 : Int) (x1 : Int) (h : Heap) : LeO (F60.t call lf ro x0 x1 h) (bodyK Tryd.prog call lf ro Tryd.f60 [.int .i64 x0, .int .i64 x1] h) :=
  body_le (c := codeOf Tryd.f60) (H := F60.Ht call lf ro) (J := F60.Ut call lf ro) rfl (Nat.le_of_ble_eq_true rfl) (hd_free rfl) (by kernel_rfl)

/-! ### barscan/barscanref32.skip: function 58 -/

noncomputable def F58.L3 (call : CT) (lf ro : Nat) (kb1 : (Option Addr) → Nat → Nat → Int → Heap → Out) : Nat → (Option Addr) → Nat → Nat → Int → Heap → Out
  | 0, _, _, _, _, _ => .fail
  | n + 1, a33, l33, c33, n34, h35 =>
  letJ (fun (b69 : Bool) (h70 : Heap) =>
  (ifK b69 (F58.L3 call lf ro kb1 n a33 l33 c33 (IntKind.i64.wrap (n34 + 1)) h70) (kb1 a33 l33 c33 n34 h70))) fun j71 =>
  ifK (decide (n34 < (l33 : Int))) (bindO (idxO Tryd.prog 22 (.slice a33 l33 c33) (.int .i64 n34) h35) fun v72 h73 =>
  bindO (loadO Tryd.prog 5 v72 h73) fun v74 h75 =>
  intK .u8 v74 fun n76 =>
  ifK (n76 != 10) (bindO (idxO Tryd.prog 22 (.slice a33 l33 c33) (.int .i64 n34) h75) fun v77 h78 =>
  bindO (loadO Tryd.prog 5 v77 h78) fun v79 h80 =>
  intK .u8 v79 fun n81 =>
  j71 (n81 != 13) h80) (j71 false h75)) (j71 false h35)

noncomputable def F58.P3 (kb : (Option Addr) → Nat → Nat → Int → Heap → Out) (e : Env) (h : Heap) : Out :=
  getK (e.get 0) fun w0 =>
  sliceK w0 fun a82 l82 c82 =>
  getK (e.get 1) fun w1 =>
  intK .i64 w1 fun n83 =>
  kb a82 l82 c82 n83 h

noncomputable def F58.J2 (call : CT) (lf ro : Nat) (kb1 : (Option Addr) → Nat → Nat → Int → Heap → Out) (a20 : Option Addr) (l20 : Nat) (c20 : Nat) (n21 : Int) (h22 : Heap) : Out :=
  bindO (idxO Tryd.prog 22 (.slice a20 l20 c20) (.int .i64 n21) h22) fun v89 h90 =>
  bindO (loadO Tryd.prog 5 v89 h90) fun v91 h92 =>
  intK .u8 v91 fun n93 =>
  ifK (n93 == 35) (F58.L3 call lf ro kb1 lf a20 l20 c20 n21 h92) (kb1 a20 l20 c20 (IntKind.i64.wrap (n21 + 1)) h92)

noncomputable def F58.PJ2 (kb : (Option Addr) → Nat → Nat → Int → Heap → Out) (e : Env) (h : Heap) : Out :=
  getK (e.get 0) fun w0 =>
  sliceK w0 fun a94 l94 c94 =>
  getK (e.get 1) fun w1 =>
  intK .i64 w1 fun n95 =>
  kb a94 l94 c94 n95 h

noncomputable def F58.L1 (call : CT) (lf ro : Nat) : Nat → (Option Addr) → Nat → Nat → Int → Heap → Out
  | 0, _, _, _, _, _ => .fail
  | n + 1, a1, l1, c1, n2, h3 =>
  letJ (fun (b122 : Bool) (h123 : Heap) =>
  (ifK b122 (F58.J2 call lf ro (F58.L1 call lf ro n) a1 l1 c1 n2 h123) (Out.ok (.int .i64 n2) h123))) fun j124 =>
  ifK (decide (n2 < (l1 : Int))) (bindO (idxO Tryd.prog 22 (.slice a1 l1 c1) (.int .i64 n2) h3) fun v125 h126 =>
  bindO (loadO Tryd.prog 5 v125 h126) fun v127 h128 =>
  intK .u8 v127 fun n129 =>
  bindO (call ro 38 [.int .u8 n129] h128) fun v130 h131 =>
  boolK v130 fun b132 =>
  ifK b132 (j124 true h131) (bindO (idxO Tryd.prog 22 (.slice a1 l1 c1) (.int .i64 n2) h131) fun v133 h134 =>
  bindO (loadO Tryd.prog 5 v133 h134) fun v135 h136 =>
  intK .u8 v135 fun n137 =>
  j124 (n137 == 35) h136)) (j124 false h3)

noncomputable def F58.P1 (kb : (Option Addr) → Nat → Nat → Int → Heap → Out) (e : Env) (h : Heap) : Out :=
  getK (e.get 0) fun w0 =>
  sliceK w0 fun a138 l138 c138 =>
  getK (e.get 1) fun w1 =>
  intK .i64 w1 fun n139 =>
  kb a138 l138 c138 n139 h

noncomputable def F58.t (call : CT) (lf ro : Nat) (ax0 : Option Addr) (lx0 : Nat) (cx0 : Nat) (x1 : Int) (h : Heap) : Out :=
  F58.L1 call lf ro lf ax0 lx0 cx0 x1 h

noncomputable def F58.Ht (call : CT) (lf ro : Nat) (i : Nat) (e : Env) (h : Heap) : Out := ifK (i == 1) (F58.P1 (F58.L1 call lf ro lf) e h) (.fail)
noncomputable def F58.Ut (call : CT) (lf ro : Nat) (i : Nat) : Option (Env → Heap → Out) := none

noncomputable def F58.H3 (call : CT) (lf ro : Nat) (kb1 : (Option Addr) → Nat → Nat → Int → Heap → Out) (kb3 : (Option Addr) → Nat → Nat → Int → Heap → Out) (i : Nat) (e : Env) (h : Heap) : Out := ifK (i == 3) (F58.P3 (F58.L3 call lf ro kb1 lf) e h) (ifK (i == 1) (F58.P1 (F58.L1 call lf ro lf) e h) (.fail))
noncomputable def F58.U3 (call : CT) (lf ro : Nat) (kb1 : (Option Addr) → Nat → Nat → Int → Heap → Out) (kb3 : (Option Addr) → Nat → Nat → Int → Heap → Out) (i : Nat) : Option (Env → Heap → Out) := ifJ (i == 2) (some (F58.PJ2 (F58.J2 call lf ro kb1))) (none)

noncomputable def F58.H1 (call : CT) (lf ro : Nat) (kb1 : (Option Addr) → Nat → Nat → Int → Heap → Out) (i : Nat) (e : Env) (h : Heap) : Out := ifK (i == 3) (F58.P3 (F58.L3 call lf ro kb1 lf) e h) (ifK (i == 1) (F58.P1 (F58.L1 call lf ro lf) e h) (.fail))
noncomputable def F58.U1 (call : CT) (lf ro : Nat) (kb1 : (Option Addr) → Nat → Nat → Int → Heap → Out) (i : Nat) : Option (Env → Heap → Out) := ifJ (i == 2) (some (F58.PJ2 (F58.J2 call lf ro kb1))) (none)

noncomputable def F58.C1 (call : CT) (lf ro : Nat) : COut → Out := blockK 0 (seqH Tryd.prog call ro (F58.Ht call lf ro) (F58.Ut call lf ro) (sub (codeOf Tryd.f58) [true, true]) (endK Tryd.prog Tryd.f58))

noncomputable def F58.K1 (call : CT) (lf ro : Nat) : COut → Out := blockK 0 (seqK Tryd.prog call lf ro (sub (codeOf Tryd.f58) [true, true]) (endK Tryd.prog Tryd.f58))

noncomputable def F58.C3 (call : CT) (lf ro : Nat) (kb1 : (Option Addr) → Nat → Nat → Int → Heap → Out) : COut → Out := blockK 2 (blockK 1 (outK (F58.P1 kb1) (fun i e h => F58.C1 call lf ro (.exit i e h)) (fun e h => F58.C1 call lf ro (.ret e h))))

noncomputable def F58.K3 (call : CT) (lf ro : Nat) (kb1 : (Option Addr) → Nat → Nat → Int → Heap → Out) : COut → Out := blockK 2 (blockK 1 (outK (F58.P1 kb1) (fun i e h => F58.C1 call lf ro (.exit i e h)) (fun e h => F58.C1 call lf ro (.ret e h))))

noncomputable def F58.CJ2 (call : CT) (lf ro : Nat) (kb1 : (Option Addr) → Nat → Nat → Int → Heap → Out) : COut → Out := outK (F58.P1 kb1) (fun i e h => F58.C1 call lf ro (.exit i e h)) (fun e h => F58.C1 call lf ro (.ret e h))

noncomputable def F58.KJ2 (call : CT) (lf ro : Nat) (kb1 : (Option Addr) → Nat → Nat → Int → Heap → Out) : COut → Out := outK (F58.P1 kb1) (fun i e h => F58.C1 call lf ro (.exit i e h)) (fun e h => F58.C1 call lf ro (.ret e h))

theorem F58.R3 (call : CT) (lf ro : Nat) (kb1 : (Option Addr) → Nat → Nat → Int → Heap → Out) (n : Nat) (f : Nat → Option Value) (a33 : Option Addr) (l33 : Nat) (c33 : Nat) (n34 : Int) (h35 : Heap) :
    execH Tryd.prog call ro (F58.H3 call lf ro kb1 (F58.L3 call lf ro kb1 n)) (F58.U3 call lf ro kb1 (F58.L3 call lf ro kb1 n)) (sub (codeOf Tryd.f58) [true, false, false, false, true, false, true, false, false, false]) (EF 51 (updF (updF f 0 (some (.slice a33 l33 c33))) 1 (some (.int .i64 n34)))) h35 (outK (F58.P3 (F58.L3 call lf ro kb1 n)) (fun i e h => F58.C3 call lf ro kb1 (.exit i e h)) (fun e h => F58.C3 call lf ro kb1 (.ret e h))) = F58.L3 call lf ro kb1 (n + 1) a33 l33 c33 n34 h35 := by kernel_rfl

theorem F58.CK3 (call : CT) (lf ro : Nat) (kb1 : (Option Addr) → Nat → Nat → Int → Heap → Out) : KLe 51 (F58.C3 call lf ro kb1) (F58.K3 call lf ro kb1) :=
  (KLe.block (KLe.block (KLe.refl _)))

theorem F58.B3 (call : CT) (lf ro : Nat) (kb1 : (Option Addr) → Nat → Nat → Int → Heap → Out) : ∀ n e h, Shaped 51 e → LeO (F58.P3 (F58.L3 call lf ro kb1 n) e h) (loopK (execK Tryd.prog call lf ro (sub (codeOf Tryd.f58) [true, false, false, false, true, false, true, false, false, false])) n e h (F58.K3 call lf ro kb1)) := by
  refine loop_le (fun e h k k' hs hk => execK_mono _ e h k k' hs hk) (kb := fun n => F58.P3 (F58.L3 call lf ro kb1 n)) (kx := fun i e h => F58.C3 call lf ro kb1 (.exit i e h)) (kr := fun e h => F58.C3 call lf ro kb1 (.ret e h)) ?_ ?_ (fun i e h hs => (F58.CK3 call lf ro kb1).exit i e h hs) (fun e h hs => (F58.CK3 call lf ro kb1).ret e h hs)
  · rintro e h ⟨f, rfl⟩
    unfold F58.P3
    refine getK_le fun w0 g0 => ?_
    rw [EF_get (by decide)] at g0
    refine sliceK_le fun a82 l82 c82 z140 => ?_
    subst z140
    refine getK_le fun w1 g1 => ?_
    rw [EF_get (by decide)] at g1
    refine intK_le fun n83 z141 => ?_
    subst z141
    exact LeO.refl _
  · rintro n e h ⟨f, rfl⟩
    unfold F58.P3
    refine getK_le fun w0 g0 => ?_
    rw [EF_get (by decide)] at g0
    refine sliceK_le fun a82 l82 c82 z142 => ?_
    subst z142
    refine getK_le fun w1 g1 => ?_
    rw [EF_get (by decide)] at g1
    refine intK_le fun n83 z143 => ?_
    subst z143
    have hr := F58.R3 call lf ro kb1 n f a82 l82 c82 n83 h
    rw [updF_same g0, updF_same g1] at hr
    exact round_le (H := (F58.H3 call lf ro kb1 (F58.L3 call lf ro kb1 n))) (J := (F58.U3 call lf ro kb1 (F58.L3 call lf ro kb1 n))) (hd_free rfl) hr

theorem F58.RJ2 (call : CT) (lf ro : Nat) (kb1 : (Option Addr) → Nat → Nat → Int → Heap → Out) (f : Nat → Option Value) (a20 : Option Addr) (l20 : Nat) (c20 : Nat) (n21 : Int) (h22 : Heap) :
    execH Tryd.prog call ro (F58.H1 call lf ro kb1) (F58.U1 call lf ro kb1) (sub (codeOf Tryd.f58) [true, false, false, false, true]) (EF 51 (updF (updF f 0 (some (.slice a20 l20 c20))) 1 (some (.int .i64 n21)))) h22 (F58.CJ2 call lf ro kb1) = F58.J2 call lf ro kb1 a20 l20 c20 n21 h22 := by kernel_rfl

theorem F58.CKJ2 (call : CT) (lf ro : Nat) (kb1 : (Option Addr) → Nat → Nat → Int → Heap → Out) : KLe 51 (F58.CJ2 call lf ro kb1) (F58.KJ2 call lf ro kb1) :=
  (KLe.refl _)

theorem F58.BJ2 (call : CT) (lf ro : Nat) (kb1 : (Option Addr) → Nat → Nat → Int → Heap → Out) : ∀ e h, Shaped 51 e → LeO (F58.PJ2 (F58.J2 call lf ro kb1) e h) (execK Tryd.prog call lf ro (sub (codeOf Tryd.f58) [true, false, false, false, true]) e h (F58.KJ2 call lf ro kb1)) := by
    rintro e h ⟨f, rfl⟩
    unfold F58.PJ2
    refine getK_le fun w0 g0 => ?_
    rw [EF_get (by decide)] at g0
    refine sliceK_le fun a94 l94 c94 z144 => ?_
    subst z144
    refine getK_le fun w1 g1 => ?_
    rw [EF_get (by decide)] at g1
    refine intK_le fun n95 z145 => ?_
    subst z145
    have hr := F58.RJ2 call lf ro kb1 f a94 l94 c94 n95 h
    rw [updF_same g0, updF_same g1] at hr
    exact cut_le (H := (F58.H1 call lf ro kb1)) (J := (F58.U1 call lf ro kb1)) (F58.CKJ2 call lf ro kb1) ⟨(hd_free rfl), ⟨(fun e h hs => F58.B3 call lf ro kb1 lf e h hs), (hd_free rfl)⟩⟩ hr

theorem F58.R1 (call : CT) (lf ro : Nat) (n : Nat) (f : Nat → Option Value) (a1 : Option Addr) (l1 : Nat) (c1 : Nat) (n2 : Int) (h3 : Heap) :
    execH Tryd.prog call ro (F58.H1 call lf ro (F58.L1 call lf ro n)) (F58.U1 call lf ro (F58.L1 call lf ro n)) (sub (codeOf Tryd.f58) [true, false, false, false]) (EF 51 (updF (updF f 0 (some (.slice a1 l1 c1))) 1 (some (.int .i64 n2)))) h3 (outK (F58.P1 (F58.L1 call lf ro n)) (fun i e h => F58.C1 call lf ro (.exit i e h)) (fun e h => F58.C1 call lf ro (.ret e h))) = F58.L1 call lf ro (n + 1) a1 l1 c1 n2 h3 := by kernel_rfl

theorem F58.CK1 (call : CT) (lf ro : Nat) : KLe 51 (F58.C1 call lf ro) (F58.K1 call lf ro) :=
  (KLe.block (KLe.seq (H := (F58.Ht call lf ro)) (J := (F58.Ut call lf ro)) (KLe.refl _) (hd_free rfl)))

theorem F58.B1 (call : CT) (lf ro : Nat) : ∀ n e h, Shaped 51 e → LeO (F58.P1 (F58.L1 call lf ro n) e h) (loopK (execK Tryd.prog call lf ro (sub (codeOf Tryd.f58) [true, false, false, false])) n e h (F58.K1 call lf ro)) := by
  refine loop_le (fun e h k k' hs hk => execK_mono _ e h k k' hs hk) (kb := fun n => F58.P1 (F58.L1 call lf ro n)) (kx := fun i e h => F58.C1 call lf ro (.exit i e h)) (kr := fun e h => F58.C1 call lf ro (.ret e h)) ?_ ?_ (fun i e h hs => (F58.CK1 call lf ro).exit i e h hs) (fun e h hs => (F58.CK1 call lf ro).ret e h hs)
  · rintro e h ⟨f, rfl⟩
    unfold F58.P1
    refine getK_le fun w0 g0 => ?_
    rw [EF_get (by decide)] at g0
    refine sliceK_le fun a138 l138 c138 z148 => ?_
    subst z148
    refine getK_le fun w1 g1 => ?_
    rw [EF_get (by decide)] at g1
    refine intK_le fun n139 z149 => ?_
    subst z149
    exact LeO.refl _
  · rintro n e h ⟨f, rfl⟩
    unfold F58.P1
    refine getK_le fun w0 g0 => ?_
    rw [EF_get (by decide)] at g0
    refine sliceK_le fun a138 l138 c138 z150 => ?_
    subst z150
    refine getK_le fun w1 g1 => ?_
    rw [EF_get (by decide)] at g1
    refine intK_le fun n139 z151 => ?_
    subst z151
    have hr := F58.R1 call lf ro n f a138 l138 c138 n139 h
    rw [updF_same g0, updF_same g1] at hr
    exact round_le (H := (F58.H1 call lf ro (F58.L1 call lf ro n))) (J := (F58.U1 call lf ro (F58.L1 call lf ro n))) ⟨(hd_free rfl), (fun e h hs => F58.BJ2 call lf ro (F58.L1 call lf ro n) e h hs)⟩ hr

theorem F58.le (call : CT) (lf ro : Nat) (ax0 : Option Addr) (lx0 : Nat) (cx0 : Nat) (x1 : Int) (h : Heap) : LeO (F58.t call lf ro ax0 lx0 cx0 x1 h) (bodyK Tryd.prog call lf ro Tryd.f58 [.slice ax0 lx0 cx0, .int .i64 x1] h) :=
  body_le (c := codeOf Tryd.f58) (H := F58.Ht call lf ro) (J := F58.Ut call lf ro) rfl (Nat.le_of_ble_eq_true rfl) ⟨(hd_free rfl), ⟨(fun e h hs => F58.B1 call lf ro  lf e h hs), (hd_free rfl)⟩⟩ (by kernel_rfl)

/-! ### barscan/barscanref32.number: function 59 -/

noncomputable def F59.L11 (call : CT) (lf ro : Nat) : Nat → (Option Addr) → Nat → Nat → Int → Int → Heap → Out
  | 0, _, _, _, _, _, _ => .fail
  | n + 1, a51, l51, c51, n52, n53, h54 =>
  letJ (fun (h84 : Heap) =>
  (Out.ok (.tuple #[.int .i64 n53, .int .i64 n52, .int .i64 0]) h84)) fun j85 =>
  letJ (fun (b94 : Bool) (h95 : Heap) =>
  (ifK b94 (bindO (idxO Tryd.prog 22 (.slice a51 l51 c51) (.int .i64 n52) h95) fun v102 h103 =>
  bindO (loadO Tryd.prog 5 v102 h103) fun v104 h105 =>
  intK .u8 v104 fun n106 =>
  F59.L11 call lf ro n a51 l51 c51 (IntKind.i64.wrap (n52 + 1)) (if IntKind.i64.wrap ((IntKind.i64.wrap (10 * n53)) + (IntKind.i64.wrap (IntKind.u8.wrap (n106 - 48)))) < 65536 then IntKind.i64.wrap ((IntKind.i64.wrap (10 * n53)) + (IntKind.i64.wrap (IntKind.u8.wrap (n106 - 48)))) else 65536) h105) (j85 h95))) fun j96 =>
  ifK (decide (n52 < (l51 : Int))) (bindO (idxO Tryd.prog 22 (.slice a51 l51 c51) (.int .i64 n52) h54) fun v107 h108 =>
  bindO (loadO Tryd.prog 5 v107 h108) fun v109 h110 =>
  intK .u8 v109 fun n111 =>
  bindO (call ro 69 [.int .u8 n111] h110) fun v112 h113 =>
  boolK v112 fun b114 =>
  j96 b114 h113) (j96 false h54)

noncomputable def F59.P11 (kb : (Option Addr) → Nat → Nat → Int → Int → Heap → Out) (e : Env) (h : Heap) : Out :=
  getK (e.get 0) fun w0 =>
  sliceK w0 fun a115 l115 c115 =>
  getK (e.get 1) fun w1 =>
  intK .i64 w1 fun n116 =>
  getK (e.get 7) fun w7 =>
  intK .i64 w7 fun n117 =>
  kb a115 l115 c115 n116 n117 h

noncomputable def F59.J10 (call : CT) (lf ro : Nat) (a48 : Option Addr) (l48 : Nat) (c48 : Nat) (n49 : Int) (h50 : Heap) : Out :=
  F59.L11 call lf ro lf a48 l48 c48 n49 0 h50

noncomputable def F59.PJ10 (kb : (Option Addr) → Nat → Nat → Int → Heap → Out) (e : Env) (h : Heap) : Out :=
  getK (e.get 0) fun w0 =>
  sliceK w0 fun a118 l118 c118 =>
  getK (e.get 1) fun w1 =>
  intK .i64 w1 fun n119 =>
  kb a118 l118 c118 n119 h

noncomputable def F59.J8 (call : CT) (lf ro : Nat) (a29 : Option Addr) (l29 : Nat) (c29 : Nat) (n30 : Int) (h31 : Heap) : Out :=
  bindO (idxO Tryd.prog 22 (.slice a29 l29 c29) (.int .i64 n30) h31) fun v40 h41 =>
  bindO (loadO Tryd.prog 5 v40 h41) fun v42 h43 =>
  intK .u8 v42 fun n44 =>
  bindO (call ro 69 [.int .u8 n44] h43) fun v45 h46 =>
  boolK v45 fun b47 =>
  ifK (!b47) (Out.ok (.tuple #[.int .i64 0, .int .i64 0, .int .i64 9]) h46) (F59.J10 call lf ro a29 l29 c29 n30 h46)

noncomputable def F59.PJ8 (kb : (Option Addr) → Nat → Nat → Int → Heap → Out) (e : Env) (h : Heap) : Out :=
  getK (e.get 0) fun w0 =>
  sliceK w0 fun a120 l120 c120 =>
  getK (e.get 1) fun w1 =>
  intK .i64 w1 fun n121 =>
  kb a120 l120 c120 n121 h

noncomputable def F59.J5 (call : CT) (lf ro : Nat) (a20 : Option Addr) (l20 : Nat) (c20 : Nat) (n21 : Int) (h22 : Heap) : Out :=
  bindO (call ro 58 [.slice a20 l20 c20, .int .i64 n21] h22) fun v26 h27 =>
  intK .i64 v26 fun n28 =>
  ifK (n28 == (l20 : Int)) (Out.ok (.tuple #[.int .i64 0, .int .i64 0, .int .i64 10]) h27) (F59.J8 call lf ro a20 l20 c20 n28 h27)

noncomputable def F59.PJ5 (kb : (Option Addr) → Nat → Nat → Int → Heap → Out) (e : Env) (h : Heap) : Out :=
  getK (e.get 0) fun w0 =>
  sliceK w0 fun a122 l122 c122 =>
  getK (e.get 1) fun w1 =>
  intK .i64 w1 fun n123 =>
  kb a122 l122 c122 n123 h

noncomputable def F59.J3 (call : CT) (lf ro : Nat) (a1 : Option Addr) (l1 : Nat) (c1 : Nat) (n2 : Int) (h3 : Heap) : Out :=
  letJ (fun (b17 : Bool) (h18 : Heap) =>
  (ifK b17 (Out.ok (.tuple #[.int .i64 0, .int .i64 0, .int .i64 9]) h18) (F59.J5 call lf ro a1 l1 c1 n2 h18))) fun j19 =>
  bindO (idxO Tryd.prog 22 (.slice a1 l1 c1) (.int .i64 n2) h3) fun v124 h125 =>
  bindO (loadO Tryd.prog 5 v124 h125) fun v126 h127 =>
  intK .u8 v126 fun n128 =>
  bindO (call ro 38 [.int .u8 n128] h127) fun v129 h130 =>
  boolK v129 fun b131 =>
  ifK (!b131) (bindO (idxO Tryd.prog 22 (.slice a1 l1 c1) (.int .i64 n2) h130) fun v132 h133 =>
  bindO (loadO Tryd.prog 5 v132 h133) fun v134 h135 =>
  intK .u8 v134 fun n136 =>
  j19 (n136 != 35) h135) (j19 false h130)

noncomputable def F59.PJ3 (kb : (Option Addr) → Nat → Nat → Int → Heap → Out) (e : Env) (h : Heap) : Out :=
  getK (e.get 0) fun w0 =>
  sliceK w0 fun a137 l137 c137 =>
  getK (e.get 1) fun w1 =>
  intK .i64 w1 fun n138 =>
  kb a137 l137 c137 n138 h

noncomputable def F59.t (call : CT) (lf ro : Nat) (ax0 : Option Addr) (lx0 : Nat) (cx0 : Nat) (x1 : Int) (h : Heap) : Out :=
  ifK (x1 == (lx0 : Int)) (Out.ok (.tuple #[.int .i64 0, .int .i64 0, .int .i64 10]) h) (F59.J3 call lf ro ax0 lx0 cx0 x1 h)

noncomputable def F59.Ht (call : CT) (lf ro : Nat) (i : Nat) (e : Env) (h : Heap) : Out := ifK (i == 11) (F59.P11 (F59.L11 call lf ro lf) e h) (.fail)
noncomputable def F59.Ut (call : CT) (lf ro : Nat) (i : Nat) : Option (Env → Heap → Out) := ifJ (i == 10) (some (F59.PJ10 (F59.J10 call lf ro))) (ifJ (i == 8) (some (F59.PJ8 (F59.J8 call lf ro))) (ifJ (i == 5) (some (F59.PJ5 (F59.J5 call lf ro))) (ifJ (i == 3) (some (F59.PJ3 (F59.J3 call lf ro))) (none))))

noncomputable def F59.H11 (call : CT) (lf ro : Nat) (kb11 : (Option Addr) → Nat → Nat → Int → Int → Heap → Out) (i : Nat) (e : Env) (h : Heap) : Out := ifK (i == 11) (F59.P11 (F59.L11 call lf ro lf) e h) (.fail)
noncomputable def F59.U11 (call : CT) (lf ro : Nat) (kb11 : (Option Addr) → Nat → Nat → Int → Int → Heap → Out) (i : Nat) : Option (Env → Heap → Out) := ifJ (i == 10) (some (F59.PJ10 (F59.J10 call lf ro))) (ifJ (i == 8) (some (F59.PJ8 (F59.J8 call lf ro))) (ifJ (i == 5) (some (F59.PJ5 (F59.J5 call lf ro))) (ifJ (i == 3) (some (F59.PJ3 (F59.J3 call lf ro))) (none))))

noncomputable def F59.C11 (call : CT) (lf ro : Nat) : COut → Out := blockK 0 (seqH Tryd.prog call ro (F59.Ht call lf ro) (F59.Ut call lf ro) (sub (codeOf Tryd.f59) [true, true, true, true, true, true, true, true]) (endK Tryd.prog Tryd.f59))

noncomputable def F59.K11 (call : CT) (lf ro : Nat) : COut → Out := blockK 0 (seqK Tryd.prog call lf ro (sub (codeOf Tryd.f59) [true, true, true, true, true, true, true, true]) (endK Tryd.prog Tryd.f59))

noncomputable def F59.CJ10 (call : CT) (lf ro : Nat) : COut → Out := endK Tryd.prog Tryd.f59

noncomputable def F59.KJ10 (call : CT) (lf ro : Nat) : COut → Out := endK Tryd.prog Tryd.f59

noncomputable def F59.CJ8 (call : CT) (lf ro : Nat) : COut → Out := endK Tryd.prog Tryd.f59

noncomputable def F59.KJ8 (call : CT) (lf ro : Nat) : COut → Out := endK Tryd.prog Tryd.f59

noncomputable def F59.CJ5 (call : CT) (lf ro : Nat) : COut → Out := endK Tryd.prog Tryd.f59

noncomputable def F59.KJ5 (call : CT) (lf ro : Nat) : COut → Out := endK Tryd.prog Tryd.f59

noncomputable def F59.CJ3 (call : CT) (lf ro : Nat) : COut → Out := endK Tryd.prog Tryd.f59

noncomputable def F59.KJ3 (call : CT) (lf ro : Nat) : COut → Out := endK Tryd.prog Tryd.f59

theorem F59.R11 (call : CT) (lf ro : Nat) (n : Nat) (f : Nat → Option Value) (a51 : Option Addr) (l51 : Nat) (c51 : Nat) (n52 : Int) (n53 : Int) (h54 : Heap) :
    execH Tryd.prog call ro (F59.H11 call lf ro (F59.L11 call lf ro n)) (F59.U11 call lf ro (F59.L11 call lf ro n)) (sub (codeOf Tryd.f59) [true, true, true, true, true, true, true, false, false, false]) (EF 63 (updF (updF (updF f 0 (some (.slice a51 l51 c51))) 1 (some (.int .i64 n52))) 7 (some (.int .i64 n53)))) h54 (outK (F59.P11 (F59.L11 call lf ro n)) (fun i e h => F59.C11 call lf ro (.exit i e h)) (fun e h => F59.C11 call lf ro (.ret e h))) = F59.L11 call lf ro (n + 1) a51 l51 c51 n52 n53 h54 := by kernel_rfl

theorem F59.CK11 (call : CT) (lf ro : Nat) : KLe 63 (F59.C11 call lf ro) (F59.K11 call lf ro) :=
  (KLe.block (KLe.seq (H := (F59.Ht call lf ro)) (J := (F59.Ut call lf ro)) (KLe.refl _) (hd_free rfl)))

theorem F59.B11 (call : CT) (lf ro : Nat) : ∀ n e h, Shaped 63 e → LeO (F59.P11 (F59.L11 call lf ro n) e h) (loopK (execK Tryd.prog call lf ro (sub (codeOf Tryd.f59) [true, true, true, true, true, true, true, false, false, false])) n e h (F59.K11 call lf ro)) := by
  refine loop_le (fun e h k k' hs hk => execK_mono _ e h k k' hs hk) (kb := fun n => F59.P11 (F59.L11 call lf ro n)) (kx := fun i e h => F59.C11 call lf ro (.exit i e h)) (kr := fun e h => F59.C11 call lf ro (.ret e h)) ?_ ?_ (fun i e h hs => (F59.CK11 call lf ro).exit i e h hs) (fun e h hs => (F59.CK11 call lf ro).ret e h hs)
  · rintro e h ⟨f, rfl⟩
    unfold F59.P11
    refine getK_le fun w0 g0 => ?_
    rw [EF_get (by decide)] at g0
    refine sliceK_le fun a115 l115 c115 z139 => ?_
    subst z139
    refine getK_le fun w1 g1 => ?_
    rw [EF_get (by decide)] at g1
    refine intK_le fun n116 z140 => ?_
    subst z140
    refine getK_le fun w7 g7 => ?_
    rw [EF_get (by decide)] at g7
    refine intK_le fun n117 z141 => ?_
    subst z141
    exact LeO.refl _
  · rintro n e h ⟨f, rfl⟩
    unfold F59.P11
    refine getK_le fun w0 g0 => ?_
    rw [EF_get (by decide)] at g0
    refine sliceK_le fun a115 l115 c115 z142 => ?_
    subst z142
    refine getK_le fun w1 g1 => ?_
    rw [EF_get (by decide)] at g1
    refine intK_le fun n116 z143 => ?_
    subst z143
    refine getK_le fun w7 g7 => ?_
    rw [EF_get (by decide)] at g7
    refine intK_le fun n117 z144 => ?_
    subst z144
    have hr := F59.R11 call lf ro n f a115 l115 c115 n116 n117 h
    rw [updF_same g0, updF_same g1, updF_same g7] at hr
    exact round_le (H := (F59.H11 call lf ro (F59.L11 call lf ro n))) (J := (F59.U11 call lf ro (F59.L11 call lf ro n))) (hd_free rfl) hr

theorem F59.RJ10 (call : CT) (lf ro : Nat) (f : Nat → Option Value) (a48 : Option Addr) (l48 : Nat) (c48 : Nat) (n49 : Int) (h50 : Heap) :
    execH Tryd.prog call ro (F59.Ht call lf ro) (F59.Ut call lf ro) (sub (codeOf Tryd.f59) [true, true, true, true, true, true]) (EF 63 (updF (updF f 0 (some (.slice a48 l48 c48))) 1 (some (.int .i64 n49)))) h50 (F59.CJ10 call lf ro) = F59.J10 call lf ro a48 l48 c48 n49 h50 := by kernel_rfl

theorem F59.CKJ10 (call : CT) (lf ro : Nat) : KLe 63 (F59.CJ10 call lf ro) (F59.KJ10 call lf ro) :=
  (KLe.refl _)

theorem F59.BJ10 (call : CT) (lf ro : Nat) : ∀ e h, Shaped 63 e → LeO (F59.PJ10 (F59.J10 call lf ro) e h) (execK Tryd.prog call lf ro (sub (codeOf Tryd.f59) [true, true, true, true, true, true]) e h (F59.KJ10 call lf ro)) := by
    rintro e h ⟨f, rfl⟩
    unfold F59.PJ10
    refine getK_le fun w0 g0 => ?_
    rw [EF_get (by decide)] at g0
    refine sliceK_le fun a118 l118 c118 z145 => ?_
    subst z145
    refine getK_le fun w1 g1 => ?_
    rw [EF_get (by decide)] at g1
    refine intK_le fun n119 z146 => ?_
    subst z146
    have hr := F59.RJ10 call lf ro f a118 l118 c118 n119 h
    rw [updF_same g0, updF_same g1] at hr
    exact cut_le (H := (F59.Ht call lf ro)) (J := (F59.Ut call lf ro)) (F59.CKJ10 call lf ro) ⟨(hd_free rfl), ⟨(fun e h hs => F59.B11 call lf ro  lf e h hs), (hd_free rfl)⟩⟩ hr

theorem F59.RJ8 (call : CT) (lf ro : Nat) (f : Nat → Option Value) (a29 : Option Addr) (l29 : Nat) (c29 : Nat) (n30 : Int) (h31 : Heap) :
    execH Tryd.prog call ro (F59.Ht call lf ro) (F59.Ut call lf ro) (sub (codeOf Tryd.f59) [true, true, true, true, true]) (EF 63 (updF (updF f 0 (some (.slice a29 l29 c29))) 1 (some (.int .i64 n30)))) h31 (F59.CJ8 call lf ro) = F59.J8 call lf ro a29 l29 c29 n30 h31 := by kernel_rfl

theorem F59.CKJ8 (call : CT) (lf ro : Nat) : KLe 63 (F59.CJ8 call lf ro) (F59.KJ8 call lf ro) :=
  (KLe.refl _)

theorem F59.BJ8 (call : CT) (lf ro : Nat) : ∀ e h, Shaped 63 e → LeO (F59.PJ8 (F59.J8 call lf ro) e h) (execK Tryd.prog call lf ro (sub (codeOf Tryd.f59) [true, true, true, true, true]) e h (F59.KJ8 call lf ro)) := by
    rintro e h ⟨f, rfl⟩
    unfold F59.PJ8
    refine getK_le fun w0 g0 => ?_
    rw [EF_get (by decide)] at g0
    refine sliceK_le fun a120 l120 c120 z149 => ?_
    subst z149
    refine getK_le fun w1 g1 => ?_
    rw [EF_get (by decide)] at g1
    refine intK_le fun n121 z150 => ?_
    subst z150
    have hr := F59.RJ8 call lf ro f a120 l120 c120 n121 h
    rw [updF_same g0, updF_same g1] at hr
    exact cut_le (H := (F59.Ht call lf ro)) (J := (F59.Ut call lf ro)) (F59.CKJ8 call lf ro) ⟨(hd_free rfl), (fun e h hs => F59.BJ10 call lf ro  e h hs)⟩ hr

theorem F59.RJ5 (call : CT) (lf ro : Nat) (f : Nat → Option Value) (a20 : Option Addr) (l20 : Nat) (c20 : Nat) (n21 : Int) (h22 : Heap) :
    execH Tryd.prog call ro (F59.Ht call lf ro) (F59.Ut call lf ro) (sub (codeOf Tryd.f59) [true, true, true]) (EF 63 (updF (updF f 0 (some (.slice a20 l20 c20))) 1 (some (.int .i64 n21)))) h22 (F59.CJ5 call lf ro) = F59.J5 call lf ro a20 l20 c20 n21 h22 := by kernel_rfl

theorem F59.CKJ5 (call : CT) (lf ro : Nat) : KLe 63 (F59.CJ5 call lf ro) (F59.KJ5 call lf ro) :=
  (KLe.refl _)

theorem F59.BJ5 (call : CT) (lf ro : Nat) : ∀ e h, Shaped 63 e → LeO (F59.PJ5 (F59.J5 call lf ro) e h) (execK Tryd.prog call lf ro (sub (codeOf Tryd.f59) [true, true, true]) e h (F59.KJ5 call lf ro)) := by
    rintro e h ⟨f, rfl⟩
    unfold F59.PJ5
    refine getK_le fun w0 g0 => ?_
    rw [EF_get (by decide)] at g0
    refine sliceK_le fun a122 l122 c122 z153 => ?_
    subst z153
    refine getK_le fun w1 g1 => ?_
    rw [EF_get (by decide)] at g1
    refine intK_le fun n123 z154 => ?_
    subst z154
    have hr := F59.RJ5 call lf ro f a122 l122 c122 n123 h
    rw [updF_same g0, updF_same g1] at hr
    exact cut_le (H := (F59.Ht call lf ro)) (J := (F59.Ut call lf ro)) (F59.CKJ5 call lf ro) ⟨(hd_free rfl), ⟨(hd_free rfl), (fun e h hs => F59.BJ8 call lf ro  e h hs)⟩⟩ hr

theorem F59.RJ3 (call : CT) (lf ro : Nat) (f : Nat → Option Value) (a1 : Option Addr) (l1 : Nat) (c1 : Nat) (n2 : Int) (h3 : Heap) :
    execH Tryd.prog call ro (F59.Ht call lf ro) (F59.Ut call lf ro) (sub (codeOf Tryd.f59) [true, true]) (EF 63 (updF (updF f 0 (some (.slice a1 l1 c1))) 1 (some (.int .i64 n2)))) h3 (F59.CJ3 call lf ro) = F59.J3 call lf ro a1 l1 c1 n2 h3 := by kernel_rfl

theorem F59.CKJ3 (call : CT) (lf ro : Nat) : KLe 63 (F59.CJ3 call lf ro) (F59.KJ3 call lf ro) :=
  (KLe.refl _)

theorem F59.BJ3 (call : CT) (lf ro : Nat) : ∀ e h, Shaped 63 e → LeO (F59.PJ3 (F59.J3 call lf ro) e h) (execK Tryd.prog call lf ro (sub (codeOf Tryd.f59) [true, true]) e h (F59.KJ3 call lf ro)) := by
    rintro e h ⟨f, rfl⟩
    unfold F59.PJ3
    refine getK_le fun w0 g0 => ?_
    rw [EF_get (by decide)] at g0
    refine sliceK_le fun a137 l137 c137 z157 => ?_
    subst z157
    refine getK_le fun w1 g1 => ?_
    rw [EF_get (by decide)] at g1
    refine intK_le fun n138 z158 => ?_
    subst z158
    have hr := F59.RJ3 call lf ro f a137 l137 c137 n138 h
    rw [updF_same g0, updF_same g1] at hr
    exact cut_le (H := (F59.Ht call lf ro)) (J := (F59.Ut call lf ro)) (F59.CKJ3 call lf ro) ⟨(hd_free rfl), (fun e h hs => F59.BJ5 call lf ro  e h hs)⟩ hr

theorem F59.le (call : CT) (lf ro : Nat) (ax0 : Option Addr) (lx0 : Nat) (cx0 : Nat) (x1 : Int) (h : Heap) : LeO (F59.t call lf ro ax0 lx0 cx0 x1 h) (bodyK Tryd.prog call lf ro Tryd.f59 [.slice ax0 lx0 cx0, .int .i64 x1] h) :=
  body_le (c := codeOf Tryd.f59) (H := F59.Ht call lf ro) (J := F59.Ut call lf ro) rfl (Nat.le_of_ble_eq_true rfl) ⟨(hd_free rfl), ⟨(hd_free rfl), (fun e h hs => F59.BJ3 call lf ro  e h hs)⟩⟩ (by kernel_rfl)

/-! ### barscan/barscanref32.header: function 57 -/

noncomputable def F57.J6 (call : CT) (lf ro : Nat) (n29 : Int) (n30 : Int) (h31 : Heap) : Out :=
  ifK (decide (n29 > 65535)) (Out.ok (.tuple #[.int .i64 0, .int .i64 0, .int .i64 3]) h31) (Out.ok (.tuple #[.int .i64 n29, .int .i64 n30, .int .i64 0]) h31)

noncomputable def F57.PJ6 (kb : Int → Int → Heap → Out) (e : Env) (h : Heap) : Out :=
  getK (e.get 7) fun w7 =>
  intK .i64 w7 fun n32 =>
  getK (e.get 8) fun w8 =>
  intK .i64 w8 fun n33 =>
  kb n32 n33 h

noncomputable def F57.J4 (call : CT) (lf ro : Nat) (a25 : Option Addr) (l25 : Nat) (c25 : Nat) (n26 : Int) (n27 : Int) (h28 : Heap) : Out :=
  ifK (n27 == (l25 : Int)) (Out.ok (.tuple #[.int .i64 0, .int .i64 0, .int .i64 10]) h28) (F57.J6 call lf ro n26 n27 h28)

noncomputable def F57.PJ4 (kb : (Option Addr) → Nat → Nat → Int → Int → Heap → Out) (e : Env) (h : Heap) : Out :=
  getK (e.get 0) fun w0 =>
  sliceK w0 fun a34 l34 c34 =>
  getK (e.get 7) fun w7 =>
  intK .i64 w7 fun n35 =>
  getK (e.get 8) fun w8 =>
  intK .i64 w8 fun n36 =>
  kb a34 l34 c34 n35 n36 h

noncomputable def F57.t (call : CT) (lf ro : Nat) (ax0 : Option Addr) (lx0 : Nat) (cx0 : Nat) (x1 : Int) (h : Heap) : Out :=
  bindO (call ro 59 [.slice ax0 lx0 cx0, .int .i64 x1] h) fun v13 h14 =>
  tupK v13 fun q15 =>
  consK q15 fun x16 q17 =>
  intK .i64 x16 fun n18 =>
  consK q17 fun x19 q20 =>
  intK .i64 x19 fun n21 =>
  consK q20 fun x22 q23 =>
  intK .i64 x22 fun n24 =>
  nilK q23 <|
  ifK (n24 != 0) (Out.ok (.tuple #[.int .i64 0, .int .i64 0, .int .i64 n24]) h14) (F57.J4 call lf ro ax0 lx0 cx0 n18 n21 h14)

noncomputable def F57.Ht (call : CT) (lf ro : Nat) (i : Nat) (e : Env) (h : Heap) : Out := .fail
noncomputable def F57.Ut (call : CT) (lf ro : Nat) (i : Nat) : Option (Env → Heap → Out) := ifJ (i == 6) (some (F57.PJ6 (F57.J6 call lf ro))) (ifJ (i == 4) (some (F57.PJ4 (F57.J4 call lf ro))) (none))

noncomputable def F57.CJ6 (call : CT) (lf ro : Nat) : COut → Out := endK Tryd.prog Tryd.f57

noncomputable def F57.KJ6 (call : CT) (lf ro : Nat) : COut → Out := endK Tryd.prog Tryd.f57

noncomputable def F57.CJ4 (call : CT) (lf ro : Nat) : COut → Out := endK Tryd.prog Tryd.f57

noncomputable def F57.KJ4 (call : CT) (lf ro : Nat) : COut → Out := endK Tryd.prog Tryd.f57

theorem F57.RJ6 (call : CT) (lf ro : Nat) (f : Nat → Option Value) (n29 : Int) (n30 : Int) (h31 : Heap) :
    execH Tryd.prog call ro (F57.Ht call lf ro) (F57.Ut call lf ro) (sub (codeOf Tryd.f57) [true, true, true, true]) (EF 28 (updF (updF f 7 (some (.int .i64 n29))) 8 (some (.int .i64 n30)))) h31 (F57.CJ6 call lf ro) = F57.J6 call lf ro n29 n30 h31 := by kernel_rfl

theorem F57.CKJ6 (call : CT) (lf ro : Nat) : KLe 28 (F57.CJ6 call lf ro) (F57.KJ6 call lf ro) :=
  (KLe.refl _)

theorem F57.BJ6 (call : CT) (lf ro : Nat) : ∀ e h, Shaped 28 e → LeO (F57.PJ6 (F57.J6 call lf ro) e h) (execK Tryd.prog call lf ro (sub (codeOf Tryd.f57) [true, true, true, true]) e h (F57.KJ6 call lf ro)) := by
    rintro e h ⟨f, rfl⟩
    unfold F57.PJ6
    refine getK_le fun w7 g7 => ?_
    rw [EF_get (by decide)] at g7
    refine intK_le fun n32 z37 => ?_
    subst z37
    refine getK_le fun w8 g8 => ?_
    rw [EF_get (by decide)] at g8
    refine intK_le fun n33 z38 => ?_
    subst z38
    have hr := F57.RJ6 call lf ro f n32 n33 h
    rw [updF_same g7, updF_same g8] at hr
    exact cut_le (H := (F57.Ht call lf ro)) (J := (F57.Ut call lf ro)) (F57.CKJ6 call lf ro) (hd_free rfl) hr

theorem F57.RJ4 (call : CT) (lf ro : Nat) (f : Nat → Option Value) (a25 : Option Addr) (l25 : Nat) (c25 : Nat) (n26 : Int) (n27 : Int) (h28 : Heap) :
    execH Tryd.prog call ro (F57.Ht call lf ro) (F57.Ut call lf ro) (sub (codeOf Tryd.f57) [true, true, true]) (EF 28 (updF (updF (updF f 0 (some (.slice a25 l25 c25))) 7 (some (.int .i64 n26))) 8 (some (.int .i64 n27)))) h28 (F57.CJ4 call lf ro) = F57.J4 call lf ro a25 l25 c25 n26 n27 h28 := by kernel_rfl

theorem F57.CKJ4 (call : CT) (lf ro : Nat) : KLe 28 (F57.CJ4 call lf ro) (F57.KJ4 call lf ro) :=
  (KLe.refl _)

theorem F57.BJ4 (call : CT) (lf ro : Nat) : ∀ e h, Shaped 28 e → LeO (F57.PJ4 (F57.J4 call lf ro) e h) (execK Tryd.prog call lf ro (sub (codeOf Tryd.f57) [true, true, true]) e h (F57.KJ4 call lf ro)) := by
    rintro e h ⟨f, rfl⟩
    unfold F57.PJ4
    refine getK_le fun w0 g0 => ?_
    rw [EF_get (by decide)] at g0
    refine sliceK_le fun a34 l34 c34 z41 => ?_
    subst z41
    refine getK_le fun w7 g7 => ?_
    rw [EF_get (by decide)] at g7
    refine intK_le fun n35 z42 => ?_
    subst z42
    refine getK_le fun w8 g8 => ?_
    rw [EF_get (by decide)] at g8
    refine intK_le fun n36 z43 => ?_
    subst z43
    have hr := F57.RJ4 call lf ro f a34 l34 c34 n35 n36 h
    rw [updF_same g0, updF_same g7, updF_same g8] at hr
    exact cut_le (H := (F57.Ht call lf ro)) (J := (F57.Ut call lf ro)) (F57.CKJ4 call lf ro) ⟨(hd_free rfl), (fun e h hs => F57.BJ6 call lf ro  e h hs)⟩ hr

theorem F57.le (call : CT) (lf ro : Nat) (ax0 : Option Addr) (lx0 : Nat) (cx0 : Nat) (x1 : Int) (h : Heap) : LeO (F57.t call lf ro ax0 lx0 cx0 x1 h) (bodyK Tryd.prog call lf ro Tryd.f57 [.slice ax0 lx0 cx0, .int .i64 x1] h) :=
  body_le (c := codeOf Tryd.f57) (H := F57.Ht call lf ro) (J := F57.Ut call lf ro) rfl (Nat.le_of_ble_eq_true rfl) ⟨(hd_free rfl), ⟨(hd_free rfl), ⟨(hd_free rfl), (fun e h hs => F57.BJ4 call lf ro  e h hs)⟩⟩⟩ (by kernel_rfl)

/-! ### barscan/barscanref32.sizes: function 45 -/

noncomputable def F45.J14 (call : CT) (lf ro : Nat) (n103 : Int) (n104 : Int) (n105 : Int) (n106 : Int) (h107 : Heap) : Out :=
  letJ (fun (b108 : Bool) =>
  (ifK b108 (Out.ok (.tuple #[.int .i64 0, .int .i64 0, .int .i64 0, .int .i64 0, .int .i64 3]) h107) (Out.ok (.tuple #[.int .i64 n103, .int .i64 n104, .int .i64 n105, .int .i64 n106, .int .i64 0]) h107))) fun j109 =>
  ifK (decide (n105 < 1)) (j109 true) (j109 (decide (n105 > 255)))

noncomputable def F45.PJ14 (kb : Int → Int → Int → Int → Heap → Out) (e : Env) (h : Heap) : Out :=
  getK (e.get 9) fun w9 =>
  intK .i64 w9 fun n110 =>
  getK (e.get 12) fun w12 =>
  intK .i64 w12 fun n111 =>
  getK (e.get 15) fun w15 =>
  intK .i64 w15 fun n112 =>
  getK (e.get 16) fun w16 =>
  intK .i64 w16 fun n113 =>
  kb n110 n111 n112 n113 h

noncomputable def F45.J11 (call : CT) (lf ro : Nat) (a74 : Option Addr) (l74 : Nat) (c74 : Nat) (n75 : Int) (n76 : Int) (n77 : Int) (h78 : Heap) : Out :=
  bindO (call ro 57 [.slice a74 l74 c74, .int .i64 n77] h78) fun v91 h92 =>
  tupK v91 fun q93 =>
  consK q93 fun x94 q95 =>
  intK .i64 x94 fun n96 =>
  consK q95 fun x97 q98 =>
  intK .i64 x97 fun n99 =>
  consK q98 fun x100 q101 =>
  intK .i64 x100 fun n102 =>
  nilK q101 <|
  ifK (n102 != 0) (Out.ok (.tuple #[.int .i64 0, .int .i64 0, .int .i64 0, .int .i64 0, .int .i64 n102]) h92) (F45.J14 call lf ro n75 n76 n96 n99 h92)

noncomputable def F45.PJ11 (kb : (Option Addr) → Nat → Nat → Int → Int → Int → Heap → Out) (e : Env) (h : Heap) : Out :=
  getK (e.get 0) fun w0 =>
  sliceK w0 fun a114 l114 c114 =>
  getK (e.get 9) fun w9 =>
  intK .i64 w9 fun n115 =>
  getK (e.get 12) fun w12 =>
  intK .i64 w12 fun n116 =>
  getK (e.get 13) fun w13 =>
  intK .i64 w13 fun n117 =>
  kb a114 l114 c114 n115 n116 n117 h

noncomputable def F45.J9 (call : CT) (lf ro : Nat) (a62 : Option Addr) (l62 : Nat) (c62 : Nat) (n63 : Int) (n64 : Int) (n65 : Int) (n66 : Int) (h67 : Heap) : Out :=
  bindO (call ro 30 [.int .i64 n63] h67) fun v71 h72 =>
  boolK v71 fun b73 =>
  ifK (!b73) (Out.ok (.tuple #[.int .i64 n64, .int .i64 n65, .int .i64 1, .int .i64 n66, .int .i64 0]) h72) (F45.J11 call lf ro a62 l62 c62 n64 n65 n66 h72)

noncomputable def F45.PJ9 (kb : (Option Addr) → Nat → Nat → Int → Int → Int → Int → Heap → Out) (e : Env) (h : Heap) : Out :=
  getK (e.get 0) fun w0 =>
  sliceK w0 fun a118 l118 c118 =>
  getK (e.get 1) fun w1 =>
  intK .i64 w1 fun n119 =>
  getK (e.get 9) fun w9 =>
  intK .i64 w9 fun n120 =>
  getK (e.get 12) fun w12 =>
  intK .i64 w12 fun n121 =>
  getK (e.get 13) fun w13 =>
  intK .i64 w13 fun n122 =>
  kb a118 l118 c118 n119 n120 n121 n122 h

noncomputable def F45.J7 (call : CT) (lf ro : Nat) (a54 : Option Addr) (l54 : Nat) (c54 : Nat) (n55 : Int) (n56 : Int) (n57 : Int) (n58 : Int) (h59 : Heap) : Out :=
  letJ (fun (b60 : Bool) =>
  (ifK b60 (Out.ok (.tuple #[.int .i64 0, .int .i64 0, .int .i64 0, .int .i64 0, .int .i64 23]) h59) (F45.J9 call lf ro a54 l54 c54 n55 n56 n57 n58 h59))) fun j61 =>
  ifK (decide (n56 < 1)) (j61 true) (ifK (decide (n56 > 4096)) (j61 true) (ifK (decide (n57 < 1)) (j61 true) (ifK (decide (n57 > 4096)) (j61 true) (j61 (decide (IntKind.i64.wrap (n56 * n57) > 4194304))))))

noncomputable def F45.PJ7 (kb : (Option Addr) → Nat → Nat → Int → Int → Int → Int → Heap → Out) (e : Env) (h : Heap) : Out :=
  getK (e.get 0) fun w0 =>
  sliceK w0 fun a123 l123 c123 =>
  getK (e.get 1) fun w1 =>
  intK .i64 w1 fun n124 =>
  getK (e.get 9) fun w9 =>
  intK .i64 w9 fun n125 =>
  getK (e.get 12) fun w12 =>
  intK .i64 w12 fun n126 =>
  getK (e.get 13) fun w13 =>
  intK .i64 w13 fun n127 =>
  kb a123 l123 c123 n124 n125 n126 n127 h

noncomputable def F45.J4 (call : CT) (lf ro : Nat) (a25 : Option Addr) (l25 : Nat) (c25 : Nat) (n26 : Int) (n27 : Int) (n28 : Int) (h29 : Heap) : Out :=
  bindO (call ro 57 [.slice a25 l25 c25, .int .i64 n28] h29) fun v42 h43 =>
  tupK v42 fun q44 =>
  consK q44 fun x45 q46 =>
  intK .i64 x45 fun n47 =>
  consK q46 fun x48 q49 =>
  intK .i64 x48 fun n50 =>
  consK q49 fun x51 q52 =>
  intK .i64 x51 fun n53 =>
  nilK q52 <|
  ifK (n53 != 0) (Out.ok (.tuple #[.int .i64 0, .int .i64 0, .int .i64 0, .int .i64 0, .int .i64 n53]) h43) (F45.J7 call lf ro a25 l25 c25 n26 n27 n47 n50 h43)

noncomputable def F45.PJ4 (kb : (Option Addr) → Nat → Nat → Int → Int → Int → Heap → Out) (e : Env) (h : Heap) : Out :=
  getK (e.get 0) fun w0 =>
  sliceK w0 fun a128 l128 c128 =>
  getK (e.get 1) fun w1 =>
  intK .i64 w1 fun n129 =>
  getK (e.get 9) fun w9 =>
  intK .i64 w9 fun n130 =>
  getK (e.get 10) fun w10 =>
  intK .i64 w10 fun n131 =>
  kb a128 l128 c128 n129 n130 n131 h

noncomputable def F45.t (call : CT) (lf ro : Nat) (ax0 : Option Addr) (lx0 : Nat) (cx0 : Nat) (x1 : Int) (h : Heap) : Out :=
  bindO (call ro 57 [.slice ax0 lx0 cx0, .int .i64 2] h) fun v13 h14 =>
  tupK v13 fun q15 =>
  consK q15 fun x16 q17 =>
  intK .i64 x16 fun n18 =>
  consK q17 fun x19 q20 =>
  intK .i64 x19 fun n21 =>
  consK q20 fun x22 q23 =>
  intK .i64 x22 fun n24 =>
  nilK q23 <|
  ifK (n24 != 0) (Out.ok (.tuple #[.int .i64 0, .int .i64 0, .int .i64 0, .int .i64 0, .int .i64 n24]) h14) (F45.J4 call lf ro ax0 lx0 cx0 x1 n18 n21 h14)

noncomputable def F45.Ht (call : CT) (lf ro : Nat) (i : Nat) (e : Env) (h : Heap) : Out := .fail
noncomputable def F45.Ut (call : CT) (lf ro : Nat) (i : Nat) : Option (Env → Heap → Out) := ifJ (i == 14) (some (F45.PJ14 (F45.J14 call lf ro))) (ifJ (i == 11) (some (F45.PJ11 (F45.J11 call lf ro))) (ifJ (i == 9) (some (F45.PJ9 (F45.J9 call lf ro))) (ifJ (i == 7) (some (F45.PJ7 (F45.J7 call lf ro))) (ifJ (i == 4) (some (F45.PJ4 (F45.J4 call lf ro))) (none)))))

noncomputable def F45.CJ14 (call : CT) (lf ro : Nat) : COut → Out := endK Tryd.prog Tryd.f45

noncomputable def F45.KJ14 (call : CT) (lf ro : Nat) : COut → Out := endK Tryd.prog Tryd.f45

noncomputable def F45.CJ11 (call : CT) (lf ro : Nat) : COut → Out := endK Tryd.prog Tryd.f45

noncomputable def F45.KJ11 (call : CT) (lf ro : Nat) : COut → Out := endK Tryd.prog Tryd.f45

noncomputable def F45.CJ9 (call : CT) (lf ro : Nat) : COut → Out := endK Tryd.prog Tryd.f45

noncomputable def F45.KJ9 (call : CT) (lf ro : Nat) : COut → Out := endK Tryd.prog Tryd.f45

noncomputable def F45.CJ7 (call : CT) (lf ro : Nat) : COut → Out := endK Tryd.prog Tryd.f45

noncomputable def F45.KJ7 (call : CT) (lf ro : Nat) : COut → Out := endK Tryd.prog Tryd.f45

noncomputable def F45.CJ4 (call : CT) (lf ro : Nat) : COut → Out := endK Tryd.prog Tryd.f45

noncomputable def F45.KJ4 (call : CT) (lf ro : Nat) : COut → Out := endK Tryd.prog Tryd.f45

theorem F45.RJ14 (call : CT) (lf ro : Nat) (f : Nat → Option Value) (n103 : Int) (n104 : Int) (n105 : Int) (n106 : Int) (h107 : Heap) :
    execH Tryd.prog call ro (F45.Ht call lf ro) (F45.Ut call lf ro) (sub (codeOf Tryd.f45) [true, true, true, true, true, true, true, true, true]) (EF 83 (updF (updF (updF (updF f 9 (some (.int .i64 n103))) 12 (some (.int .i64 n104))) 15 (some (.int .i64 n105))) 16 (some (.int .i64 n106)))) h107 (F45.CJ14 call lf ro) = F45.J14 call lf ro n103 n104 n105 n106 h107 := by kernel_rfl

theorem F45.CKJ14 (call : CT) (lf ro : Nat) : KLe 83 (F45.CJ14 call lf ro) (F45.KJ14 call lf ro) :=
  (KLe.refl _)

theorem F45.BJ14 (call : CT) (lf ro : Nat) : ∀ e h, Shaped 83 e → LeO (F45.PJ14 (F45.J14 call lf ro) e h) (execK Tryd.prog call lf ro (sub (codeOf Tryd.f45) [true, true, true, true, true, true, true, true, true]) e h (F45.KJ14 call lf ro)) := by
    rintro e h ⟨f, rfl⟩
    unfold F45.PJ14
    refine getK_le fun w9 g9 => ?_
    rw [EF_get (by decide)] at g9
    refine intK_le fun n110 z132 => ?_
    subst z132
    refine getK_le fun w12 g12 => ?_
    rw [EF_get (by decide)] at g12
    refine intK_le fun n111 z133 => ?_
    subst z133
    refine getK_le fun w15 g15 => ?_
    rw [EF_get (by decide)] at g15
    refine intK_le fun n112 z134 => ?_
    subst z134
    refine getK_le fun w16 g16 => ?_
    rw [EF_get (by decide)] at g16
    refine intK_le fun n113 z135 => ?_
    subst z135
    have hr := F45.RJ14 call lf ro f n110 n111 n112 n113 h
    rw [updF_same g9, updF_same g12, updF_same g15, updF_same g16] at hr
    exact cut_le (H := (F45.Ht call lf ro)) (J := (F45.Ut call lf ro)) (F45.CKJ14 call lf ro) (hd_free rfl) hr

theorem F45.RJ11 (call : CT) (lf ro : Nat) (f : Nat → Option Value) (a74 : Option Addr) (l74 : Nat) (c74 : Nat) (n75 : Int) (n76 : Int) (n77 : Int) (h78 : Heap) :
    execH Tryd.prog call ro (F45.Ht call lf ro) (F45.Ut call lf ro) (sub (codeOf Tryd.f45) [true, true, true, true, true, true, true]) (EF 83 (updF (updF (updF (updF f 0 (some (.slice a74 l74 c74))) 9 (some (.int .i64 n75))) 12 (some (.int .i64 n76))) 13 (some (.int .i64 n77)))) h78 (F45.CJ11 call lf ro) = F45.J11 call lf ro a74 l74 c74 n75 n76 n77 h78 := by kernel_rfl

theorem F45.CKJ11 (call : CT) (lf ro : Nat) : KLe 83 (F45.CJ11 call lf ro) (F45.KJ11 call lf ro) :=
  (KLe.refl _)

theorem F45.BJ11 (call : CT) (lf ro : Nat) : ∀ e h, Shaped 83 e → LeO (F45.PJ11 (F45.J11 call lf ro) e h) (execK Tryd.prog call lf ro (sub (codeOf Tryd.f45) [true, true, true, true, true, true, true]) e h (F45.KJ11 call lf ro)) := by
    rintro e h ⟨f, rfl⟩
    unfold F45.PJ11
    refine getK_le fun w0 g0 => ?_
    rw [EF_get (by decide)] at g0
    refine sliceK_le fun a114 l114 c114 z140 => ?_
    subst z140
    refine getK_le fun w9 g9 => ?_
    rw [EF_get (by decide)] at g9
    refine intK_le fun n115 z141 => ?_
    subst z141
    refine getK_le fun w12 g12 => ?_
    rw [EF_get (by decide)] at g12
    refine intK_le fun n116 z142 => ?_
    subst z142
    refine getK_le fun w13 g13 => ?_
    rw [EF_get (by decide)] at g13
    refine intK_le fun n117 z143 => ?_
    subst z143
    have hr := F45.RJ11 call lf ro f a114 l114 c114 n115 n116 n117 h
    rw [updF_same g0, updF_same g9, updF_same g12, updF_same g13] at hr
    exact cut_le (H := (F45.Ht call lf ro)) (J := (F45.Ut call lf ro)) (F45.CKJ11 call lf ro) ⟨(hd_free rfl), ⟨(hd_free rfl), (fun e h hs => F45.BJ14 call lf ro  e h hs)⟩⟩ hr

theorem F45.RJ9 (call : CT) (lf ro : Nat) (f : Nat → Option Value) (a62 : Option Addr) (l62 : Nat) (c62 : Nat) (n63 : Int) (n64 : Int) (n65 : Int) (n66 : Int) (h67 : Heap) :
    execH Tryd.prog call ro (F45.Ht call lf ro) (F45.Ut call lf ro) (sub (codeOf Tryd.f45) [true, true, true, true, true, true]) (EF 83 (updF (updF (updF (updF (updF f 0 (some (.slice a62 l62 c62))) 1 (some (.int .i64 n63))) 9 (some (.int .i64 n64))) 12 (some (.int .i64 n65))) 13 (some (.int .i64 n66)))) h67 (F45.CJ9 call lf ro) = F45.J9 call lf ro a62 l62 c62 n63 n64 n65 n66 h67 := by kernel_rfl

theorem F45.CKJ9 (call : CT) (lf ro : Nat) : KLe 83 (F45.CJ9 call lf ro) (F45.KJ9 call lf ro) :=
  (KLe.refl _)

theorem F45.BJ9 (call : CT) (lf ro : Nat) : ∀ e h, Shaped 83 e → LeO (F45.PJ9 (F45.J9 call lf ro) e h) (execK Tryd.prog call lf ro (sub (codeOf Tryd.f45) [true, true, true, true, true, true]) e h (F45.KJ9 call lf ro)) := by
    rintro e h ⟨f, rfl⟩
    unfold F45.PJ9
    refine getK_le fun w0 g0 => ?_
    rw [EF_get (by decide)] at g0
    refine sliceK_le fun a118 l118 c118 z148 => ?_
    subst z148
    refine getK_le fun w1 g1 => ?_
    rw [EF_get (by decide)] at g1
    refine intK_le fun n119 z149 => ?_
    subst z149
    refine getK_le fun w9 g9 => ?_
    rw [EF_get (by decide)] at g9
    refine intK_le fun n120 z150 => ?_
    subst z150
    refine getK_le fun w12 g12 => ?_
    rw [EF_get (by decide)] at g12
    refine intK_le fun n121 z151 => ?_
    subst z151
    refine getK_le fun w13 g13 => ?_
    rw [EF_get (by decide)] at g13
    refine intK_le fun n122 z152 => ?_
    subst z152
    have hr := F45.RJ9 call lf ro f a118 l118 c118 n119 n120 n121 n122 h
    rw [updF_same g0, updF_same g1, updF_same g9, updF_same g12, updF_same g13] at hr
    exact cut_le (H := (F45.Ht call lf ro)) (J := (F45.Ut call lf ro)) (F45.CKJ9 call lf ro) ⟨(hd_free rfl), (fun e h hs => F45.BJ11 call lf ro  e h hs)⟩ hr

theorem F45.RJ7 (call : CT) (lf ro : Nat) (f : Nat → Option Value) (a54 : Option Addr) (l54 : Nat) (c54 : Nat) (n55 : Int) (n56 : Int) (n57 : Int) (n58 : Int) (h59 : Heap) :
    execH Tryd.prog call ro (F45.Ht call lf ro) (F45.Ut call lf ro) (sub (codeOf Tryd.f45) [true, true, true, true, true]) (EF 83 (updF (updF (updF (updF (updF f 0 (some (.slice a54 l54 c54))) 1 (some (.int .i64 n55))) 9 (some (.int .i64 n56))) 12 (some (.int .i64 n57))) 13 (some (.int .i64 n58)))) h59 (F45.CJ7 call lf ro) = F45.J7 call lf ro a54 l54 c54 n55 n56 n57 n58 h59 := by kernel_rfl

theorem F45.CKJ7 (call : CT) (lf ro : Nat) : KLe 83 (F45.CJ7 call lf ro) (F45.KJ7 call lf ro) :=
  (KLe.refl _)

theorem F45.BJ7 (call : CT) (lf ro : Nat) : ∀ e h, Shaped 83 e → LeO (F45.PJ7 (F45.J7 call lf ro) e h) (execK Tryd.prog call lf ro (sub (codeOf Tryd.f45) [true, true, true, true, true]) e h (F45.KJ7 call lf ro)) := by
    rintro e h ⟨f, rfl⟩
    unfold F45.PJ7
    refine getK_le fun w0 g0 => ?_
    rw [EF_get (by decide)] at g0
    refine sliceK_le fun a123 l123 c123 z158 => ?_
    subst z158
    refine getK_le fun w1 g1 => ?_
    rw [EF_get (by decide)] at g1
    refine intK_le fun n124 z159 => ?_
    subst z159
    refine getK_le fun w9 g9 => ?_
    rw [EF_get (by decide)] at g9
    refine intK_le fun n125 z160 => ?_
    subst z160
    refine getK_le fun w12 g12 => ?_
    rw [EF_get (by decide)] at g12
    refine intK_le fun n126 z161 => ?_
    subst z161
    refine getK_le fun w13 g13 => ?_
    rw [EF_get (by decide)] at g13
    refine intK_le fun n127 z162 => ?_
    subst z162
    have hr := F45.RJ7 call lf ro f a123 l123 c123 n124 n125 n126 n127 h
    rw [updF_same g0, updF_same g1, updF_same g9, updF_same g12, updF_same g13] at hr
    exact cut_le (H := (F45.Ht call lf ro)) (J := (F45.Ut call lf ro)) (F45.CKJ7 call lf ro) ⟨(hd_free rfl), (fun e h hs => F45.BJ9 call lf ro  e h hs)⟩ hr

theorem F45.RJ4 (call : CT) (lf ro : Nat) (f : Nat → Option Value) (a25 : Option Addr) (l25 : Nat) (c25 : Nat) (n26 : Int) (n27 : Int) (n28 : Int) (h29 : Heap) :
    execH Tryd.prog call ro (F45.Ht call lf ro) (F45.Ut call lf ro) (sub (codeOf Tryd.f45) [true, true, true]) (EF 83 (updF (updF (updF (updF f 0 (some (.slice a25 l25 c25))) 1 (some (.int .i64 n26))) 9 (some (.int .i64 n27))) 10 (some (.int .i64 n28)))) h29 (F45.CJ4 call lf ro) = F45.J4 call lf ro a25 l25 c25 n26 n27 n28 h29 := by kernel_rfl

theorem F45.CKJ4 (call : CT) (lf ro : Nat) : KLe 83 (F45.CJ4 call lf ro) (F45.KJ4 call lf ro) :=
  (KLe.refl _)

theorem F45.BJ4 (call : CT) (lf ro : Nat) : ∀ e h, Shaped 83 e → LeO (F45.PJ4 (F45.J4 call lf ro) e h) (execK Tryd.prog call lf ro (sub (codeOf Tryd.f45) [true, true, true]) e h (F45.KJ4 call lf ro)) := by
    rintro e h ⟨f, rfl⟩
    unfold F45.PJ4
    refine getK_le fun w0 g0 => ?_
    rw [EF_get (by decide)] at g0
    refine sliceK_le fun a128 l128 c128 z168 => ?_
    subst z168
    refine getK_le fun w1 g1 => ?_
    rw [EF_get (by decide)] at g1
    refine intK_le fun n129 z169 => ?_
    subst z169
    refine getK_le fun w9 g9 => ?_
    rw [EF_get (by decide)] at g9
    refine intK_le fun n130 z170 => ?_
    subst z170
    refine getK_le fun w10 g10 => ?_
    rw [EF_get (by decide)] at g10
    refine intK_le fun n131 z171 => ?_
    subst z171
    have hr := F45.RJ4 call lf ro f a128 l128 c128 n129 n130 n131 h
    rw [updF_same g0, updF_same g1, updF_same g9, updF_same g10] at hr
    exact cut_le (H := (F45.Ht call lf ro)) (J := (F45.Ut call lf ro)) (F45.CKJ4 call lf ro) ⟨(hd_free rfl), ⟨(hd_free rfl), (fun e h hs => F45.BJ7 call lf ro  e h hs)⟩⟩ hr

theorem F45.le (call : CT) (lf ro : Nat) (ax0 : Option Addr) (lx0 : Nat) (cx0 : Nat) (x1 : Int) (h : Heap) : LeO (F45.t call lf ro ax0 lx0 cx0 x1 h) (bodyK Tryd.prog call lf ro Tryd.f45 [.slice ax0 lx0 cx0, .int .i64 x1] h) :=
  body_le (c := codeOf Tryd.f45) (H := F45.Ht call lf ro) (J := F45.Ut call lf ro) rfl (Nat.le_of_ble_eq_true rfl) ⟨(hd_free rfl), ⟨(hd_free rfl), ⟨(hd_free rfl), (fun e h hs => F45.BJ4 call lf ro  e h hs)⟩⟩⟩ (by kernel_rfl)

/-! ### barscan/barscanref32.bits: function 46 -/

noncomputable def F46.J6 (call : CT) (lf ro : Nat) (kb2 : (Option Addr) → Nat → Nat → Int → Int → (Option Addr) → Nat → Nat → Heap → Out) (a17 : Option Addr) (l17 : Nat) (c17 : Nat) (n18 : Int) (n19 : Int) (a20 : Option Addr) (l20 : Nat) (c20 : Nat) (h21 : Heap) : Out :=
  letJ (fun (b73 : Bool) (h74 : Heap) =>
  (ifK b73 (Out.ok (.tuple #[.slice none 0 0, .int .i64 0, .int .i64 9]) h74) (bindO (idxO Tryd.prog 22 (.slice a17 l17 c17) (.int .i64 n18) h74) fun v85 h86 =>
  bindO (loadO Tryd.prog 5 v85 h86) fun v87 h88 =>
  intK .u8 v87 fun n89 =>
  pushJ h88 1 [.int .u8 (IntKind.u8.wrap ((IntKind.u8.wrap (49 - n89)) * 255))] fun h90 =>
  bindO (appO Tryd.prog ro 22 22 (.slice a20 l20 c20) (.slice (some ⟨h88.next, 0, none⟩) 1 1) h90) fun v91 h92 =>
  sliceK v91 fun a93 l93 c93 =>
  kb2 a17 l17 c17 (IntKind.i64.wrap (n18 + 1)) n19 a93 l93 c93 h92))) fun j75 =>
  bindO (idxO Tryd.prog 22 (.slice a17 l17 c17) (.int .i64 n18) h21) fun v94 h95 =>
  bindO (loadO Tryd.prog 5 v94 h95) fun v96 h97 =>
  intK .u8 v96 fun n98 =>
  ifK (n98 != 48) (bindO (idxO Tryd.prog 22 (.slice a17 l17 c17) (.int .i64 n18) h97) fun v99 h100 =>
  bindO (loadO Tryd.prog 5 v99 h100) fun v101 h102 =>
  intK .u8 v101 fun n103 =>
  j75 (n103 != 49) h102) (j75 false h97)

noncomputable def F46.PJ6 (kb : (Option Addr) → Nat → Nat → Int → Int → (Option Addr) → Nat → Nat → Heap → Out) (e : Env) (h : Heap) : Out :=
  getK (e.get 0) fun w0 =>
  sliceK w0 fun a104 l104 c104 =>
  getK (e.get 1) fun w1 =>
  intK .i64 w1 fun n105 =>
  getK (e.get 2) fun w2 =>
  intK .i64 w2 fun n106 =>
  getK (e.get 9) fun w9 =>
  sliceK w9 fun a107 l107 c107 =>
  kb a104 l104 c104 n105 n106 a107 l107 c107 h

noncomputable def F46.J3 (call : CT) (lf ro : Nat) (kb2 : (Option Addr) → Nat → Nat → Int → Int → (Option Addr) → Nat → Nat → Heap → Out) (a6 : Option Addr) (l6 : Nat) (c6 : Nat) (n7 : Int) (n8 : Int) (a9 : Option Addr) (l9 : Nat) (c9 : Nat) (h10 : Heap) : Out :=
  bindO (call ro 58 [.slice a6 l6 c6, .int .i64 n7] h10) fun v111 h112 =>
  intK .i64 v111 fun n113 =>
  ifK (n113 == (l6 : Int)) (Out.ok (.tuple #[.slice none 0 0, .int .i64 0, .int .i64 10]) h112) (F46.J6 call lf ro kb2 a6 l6 c6 n113 n8 a9 l9 c9 h112)

noncomputable def F46.PJ3 (kb : (Option Addr) → Nat → Nat → Int → Int → (Option Addr) → Nat → Nat → Heap → Out) (e : Env) (h : Heap) : Out :=
  getK (e.get 0) fun w0 =>
  sliceK w0 fun a114 l114 c114 =>
  getK (e.get 1) fun w1 =>
  intK .i64 w1 fun n115 =>
  getK (e.get 2) fun w2 =>
  intK .i64 w2 fun n116 =>
  getK (e.get 9) fun w9 =>
  sliceK w9 fun a117 l117 c117 =>
  kb a114 l114 c114 n115 n116 a117 l117 c117 h

noncomputable def F46.L2 (call : CT) (lf ro : Nat) : Nat → (Option Addr) → Nat → Nat → Int → Int → (Option Addr) → Nat → Nat → Heap → Out
  | 0, _, _, _, _, _, _, _, _, _ => .fail
  | n + 1, a1, l1, c1, n2, n3, a4, l4, c4, h5 =>
  ifK (decide ((l4 : Int) < n3)) (F46.J3 call lf ro (F46.L2 call lf ro n) a1 l1 c1 n2 n3 a4 l4 c4 h5) (Out.ok (.tuple #[.slice a4 l4 c4, .int .i64 n2, .int .i64 0]) h5)

noncomputable def F46.P2 (kb : (Option Addr) → Nat → Nat → Int → Int → (Option Addr) → Nat → Nat → Heap → Out) (e : Env) (h : Heap) : Out :=
  getK (e.get 0) fun w0 =>
  sliceK w0 fun a118 l118 c118 =>
  getK (e.get 1) fun w1 =>
  intK .i64 w1 fun n119 =>
  getK (e.get 2) fun w2 =>
  intK .i64 w2 fun n120 =>
  getK (e.get 9) fun w9 =>
  sliceK w9 fun a121 l121 c121 =>
  kb a118 l118 c118 n119 n120 a121 l121 c121 h

noncomputable def F46.t (call : CT) (lf ro : Nat) (ax0 : Option Addr) (lx0 : Nat) (cx0 : Nat) (x1 : Int) (x2 : Int) (h : Heap) : Out :=
  F46.L2 call lf ro lf ax0 lx0 cx0 x1 x2 none 0 0 h

noncomputable def F46.Ht (call : CT) (lf ro : Nat) (i : Nat) (e : Env) (h : Heap) : Out := ifK (i == 2) (F46.P2 (F46.L2 call lf ro lf) e h) (.fail)
noncomputable def F46.Ut (call : CT) (lf ro : Nat) (i : Nat) : Option (Env → Heap → Out) := none

noncomputable def F46.H2 (call : CT) (lf ro : Nat) (kb2 : (Option Addr) → Nat → Nat → Int → Int → (Option Addr) → Nat → Nat → Heap → Out) (i : Nat) (e : Env) (h : Heap) : Out := ifK (i == 2) (F46.P2 (F46.L2 call lf ro lf) e h) (.fail)
noncomputable def F46.U2 (call : CT) (lf ro : Nat) (kb2 : (Option Addr) → Nat → Nat → Int → Int → (Option Addr) → Nat → Nat → Heap → Out) (i : Nat) : Option (Env → Heap → Out) := ifJ (i == 6) (some (F46.PJ6 (F46.J6 call lf ro kb2))) (ifJ (i == 3) (some (F46.PJ3 (F46.J3 call lf ro kb2))) (none))

noncomputable def F46.C2 (call : CT) (lf ro : Nat) : COut → Out := blockK 0 (seqH Tryd.prog call ro (F46.Ht call lf ro) (F46.Ut call lf ro) (sub (codeOf Tryd.f46) [true, true, true]) (endK Tryd.prog Tryd.f46))

noncomputable def F46.K2 (call : CT) (lf ro : Nat) : COut → Out := blockK 0 (seqK Tryd.prog call lf ro (sub (codeOf Tryd.f46) [true, true, true]) (endK Tryd.prog Tryd.f46))

noncomputable def F46.CJ6 (call : CT) (lf ro : Nat) (kb2 : (Option Addr) → Nat → Nat → Int → Int → (Option Addr) → Nat → Nat → Heap → Out) : COut → Out := blockK 1 (outK (F46.P2 kb2) (fun i e h => F46.C2 call lf ro (.exit i e h)) (fun e h => F46.C2 call lf ro (.ret e h)))

noncomputable def F46.KJ6 (call : CT) (lf ro : Nat) (kb2 : (Option Addr) → Nat → Nat → Int → Int → (Option Addr) → Nat → Nat → Heap → Out) : COut → Out := blockK 1 (outK (F46.P2 kb2) (fun i e h => F46.C2 call lf ro (.exit i e h)) (fun e h => F46.C2 call lf ro (.ret e h)))

noncomputable def F46.CJ3 (call : CT) (lf ro : Nat) (kb2 : (Option Addr) → Nat → Nat → Int → Int → (Option Addr) → Nat → Nat → Heap → Out) : COut → Out := outK (F46.P2 kb2) (fun i e h => F46.C2 call lf ro (.exit i e h)) (fun e h => F46.C2 call lf ro (.ret e h))

noncomputable def F46.KJ3 (call : CT) (lf ro : Nat) (kb2 : (Option Addr) → Nat → Nat → Int → Int → (Option Addr) → Nat → Nat → Heap → Out) : COut → Out := outK (F46.P2 kb2) (fun i e h => F46.C2 call lf ro (.exit i e h)) (fun e h => F46.C2 call lf ro (.ret e h))

theorem F46.RJ6 (call : CT) (lf ro : Nat) (kb2 : (Option Addr) → Nat → Nat → Int → Int → (Option Addr) → Nat → Nat → Heap → Out) (f : Nat → Option Value) (a17 : Option Addr) (l17 : Nat) (c17 : Nat) (n18 : Int) (n19 : Int) (a20 : Option Addr) (l20 : Nat) (c20 : Nat) (h21 : Heap) :
    execH Tryd.prog call ro (F46.H2 call lf ro kb2) (F46.U2 call lf ro kb2) (sub (codeOf Tryd.f46) [true, true, false, false, false, true, false, true, true]) (EF 46 (updF (updF (updF (updF f 0 (some (.slice a17 l17 c17))) 1 (some (.int .i64 n18))) 2 (some (.int .i64 n19))) 9 (some (.slice a20 l20 c20)))) h21 (F46.CJ6 call lf ro kb2) = F46.J6 call lf ro kb2 a17 l17 c17 n18 n19 a20 l20 c20 h21 := by kernel_rfl

theorem F46.CKJ6 (call : CT) (lf ro : Nat) (kb2 : (Option Addr) → Nat → Nat → Int → Int → (Option Addr) → Nat → Nat → Heap → Out) : KLe 46 (F46.CJ6 call lf ro kb2) (F46.KJ6 call lf ro kb2) :=
  (KLe.block (KLe.refl _))

theorem F46.BJ6 (call : CT) (lf ro : Nat) (kb2 : (Option Addr) → Nat → Nat → Int → Int → (Option Addr) → Nat → Nat → Heap → Out) : ∀ e h, Shaped 46 e → LeO (F46.PJ6 (F46.J6 call lf ro kb2) e h) (execK Tryd.prog call lf ro (sub (codeOf Tryd.f46) [true, true, false, false, false, true, false, true, true]) e h (F46.KJ6 call lf ro kb2)) := by
    rintro e h ⟨f, rfl⟩
    unfold F46.PJ6
    refine getK_le fun w0 g0 => ?_
    rw [EF_get (by decide)] at g0
    refine sliceK_le fun a104 l104 c104 z122 => ?_
    subst z122
    refine getK_le fun w1 g1 => ?_
    rw [EF_get (by decide)] at g1
    refine intK_le fun n105 z123 => ?_
    subst z123
    refine getK_le fun w2 g2 => ?_
    rw [EF_get (by decide)] at g2
    refine intK_le fun n106 z124 => ?_
    subst z124
    refine getK_le fun w9 g9 => ?_
    rw [EF_get (by decide)] at g9
    refine sliceK_le fun a107 l107 c107 z125 => ?_
    subst z125
    have hr := F46.RJ6 call lf ro kb2 f a104 l104 c104 n105 n106 a107 l107 c107 h
    rw [updF_same g0, updF_same g1, updF_same g2, updF_same g9] at hr
    exact cut_le (H := (F46.H2 call lf ro kb2)) (J := (F46.U2 call lf ro kb2)) (F46.CKJ6 call lf ro kb2) (hd_free rfl) hr

theorem F46.RJ3 (call : CT) (lf ro : Nat) (kb2 : (Option Addr) → Nat → Nat → Int → Int → (Option Addr) → Nat → Nat → Heap → Out) (f : Nat → Option Value) (a6 : Option Addr) (l6 : Nat) (c6 : Nat) (n7 : Int) (n8 : Int) (a9 : Option Addr) (l9 : Nat) (c9 : Nat) (h10 : Heap) :
    execH Tryd.prog call ro (F46.H2 call lf ro kb2) (F46.U2 call lf ro kb2) (sub (codeOf Tryd.f46) [true, true, false, false, false, true]) (EF 46 (updF (updF (updF (updF f 0 (some (.slice a6 l6 c6))) 1 (some (.int .i64 n7))) 2 (some (.int .i64 n8))) 9 (some (.slice a9 l9 c9)))) h10 (F46.CJ3 call lf ro kb2) = F46.J3 call lf ro kb2 a6 l6 c6 n7 n8 a9 l9 c9 h10 := by kernel_rfl

theorem F46.CKJ3 (call : CT) (lf ro : Nat) (kb2 : (Option Addr) → Nat → Nat → Int → Int → (Option Addr) → Nat → Nat → Heap → Out) : KLe 46 (F46.CJ3 call lf ro kb2) (F46.KJ3 call lf ro kb2) :=
  (KLe.refl _)

theorem F46.BJ3 (call : CT) (lf ro : Nat) (kb2 : (Option Addr) → Nat → Nat → Int → Int → (Option Addr) → Nat → Nat → Heap → Out) : ∀ e h, Shaped 46 e → LeO (F46.PJ3 (F46.J3 call lf ro kb2) e h) (execK Tryd.prog call lf ro (sub (codeOf Tryd.f46) [true, true, false, false, false, true]) e h (F46.KJ3 call lf ro kb2)) := by
    rintro e h ⟨f, rfl⟩
    unfold F46.PJ3
    refine getK_le fun w0 g0 => ?_
    rw [EF_get (by decide)] at g0
    refine sliceK_le fun a114 l114 c114 z130 => ?_
    subst z130
    refine getK_le fun w1 g1 => ?_
    rw [EF_get (by decide)] at g1
    refine intK_le fun n115 z131 => ?_
    subst z131
    refine getK_le fun w2 g2 => ?_
    rw [EF_get (by decide)] at g2
    refine intK_le fun n116 z132 => ?_
    subst z132
    refine getK_le fun w9 g9 => ?_
    rw [EF_get (by decide)] at g9
    refine sliceK_le fun a117 l117 c117 z133 => ?_
    subst z133
    have hr := F46.RJ3 call lf ro kb2 f a114 l114 c114 n115 n116 a117 l117 c117 h
    rw [updF_same g0, updF_same g1, updF_same g2, updF_same g9] at hr
    exact cut_le (H := (F46.H2 call lf ro kb2)) (J := (F46.U2 call lf ro kb2)) (F46.CKJ3 call lf ro kb2) ⟨(hd_free rfl), ⟨(hd_free rfl), (fun e h hs => F46.BJ6 call lf ro kb2 e h hs)⟩⟩ hr

theorem F46.R2 (call : CT) (lf ro : Nat) (n : Nat) (f : Nat → Option Value) (a1 : Option Addr) (l1 : Nat) (c1 : Nat) (n2 : Int) (n3 : Int) (a4 : Option Addr) (l4 : Nat) (c4 : Nat) (h5 : Heap) :
    execH Tryd.prog call ro (F46.H2 call lf ro (F46.L2 call lf ro n)) (F46.U2 call lf ro (F46.L2 call lf ro n)) (sub (codeOf Tryd.f46) [true, true, false, false, false]) (EF 46 (updF (updF (updF (updF f 0 (some (.slice a1 l1 c1))) 1 (some (.int .i64 n2))) 2 (some (.int .i64 n3))) 9 (some (.slice a4 l4 c4)))) h5 (outK (F46.P2 (F46.L2 call lf ro n)) (fun i e h => F46.C2 call lf ro (.exit i e h)) (fun e h => F46.C2 call lf ro (.ret e h))) = F46.L2 call lf ro (n + 1) a1 l1 c1 n2 n3 a4 l4 c4 h5 := by kernel_rfl

theorem F46.CK2 (call : CT) (lf ro : Nat) : KLe 46 (F46.C2 call lf ro) (F46.K2 call lf ro) :=
  (KLe.block (KLe.seq (H := (F46.Ht call lf ro)) (J := (F46.Ut call lf ro)) (KLe.refl _) (hd_free rfl)))

theorem F46.B2 (call : CT) (lf ro : Nat) : ∀ n e h, Shaped 46 e → LeO (F46.P2 (F46.L2 call lf ro n) e h) (loopK (execK Tryd.prog call lf ro (sub (codeOf Tryd.f46) [true, true, false, false, false])) n e h (F46.K2 call lf ro)) := by
  refine loop_le (fun e h k k' hs hk => execK_mono _ e h k k' hs hk) (kb := fun n => F46.P2 (F46.L2 call lf ro n)) (kx := fun i e h => F46.C2 call lf ro (.exit i e h)) (kr := fun e h => F46.C2 call lf ro (.ret e h)) ?_ ?_ (fun i e h hs => (F46.CK2 call lf ro).exit i e h hs) (fun e h hs => (F46.CK2 call lf ro).ret e h hs)
  · rintro e h ⟨f, rfl⟩
    unfold F46.P2
    refine getK_le fun w0 g0 => ?_
    rw [EF_get (by decide)] at g0
    refine sliceK_le fun a118 l118 c118 z138 => ?_
    subst z138
    refine getK_le fun w1 g1 => ?_
    rw [EF_get (by decide)] at g1
    refine intK_le fun n119 z139 => ?_
    subst z139
    refine getK_le fun w2 g2 => ?_
    rw [EF_get (by decide)] at g2
    refine intK_le fun n120 z140 => ?_
    subst z140
    refine getK_le fun w9 g9 => ?_
    rw [EF_get (by decide)] at g9
    refine sliceK_le fun a121 l121 c121 z141 => ?_
    subst z141
    exact LeO.refl _
  · rintro n e h ⟨f, rfl⟩
    unfold F46.P2
    refine getK_le fun w0 g0 => ?_
    rw [EF_get (by decide)] at g0
    refine sliceK_le fun a118 l118 c118 z142 => ?_
    subst z142
    refine getK_le fun w1 g1 => ?_
    rw [EF_get (by decide)] at g1
    refine intK_le fun n119 z143 => ?_
    subst z143
    refine getK_le fun w2 g2 => ?_
    rw [EF_get (by decide)] at g2
    refine intK_le fun n120 z144 => ?_
    subst z144
    refine getK_le fun w9 g9 => ?_
    rw [EF_get (by decide)] at g9
    refine sliceK_le fun a121 l121 c121 z145 => ?_
    subst z145
    have hr := F46.R2 call lf ro n f a118 l118 c118 n119 n120 a121 l121 c121 h
    rw [updF_same g0, updF_same g1, updF_same g2, updF_same g9] at hr
    exact round_le (H := (F46.H2 call lf ro (F46.L2 call lf ro n))) (J := (F46.U2 call lf ro (F46.L2 call lf ro n))) ⟨(hd_free rfl), (fun e h hs => F46.BJ3 call lf ro (F46.L2 call lf ro n) e h hs)⟩ hr

theorem F46.le (call : CT) (lf ro : Nat) (ax0 : Option Addr) (lx0 : Nat) (cx0 : Nat) (x1 : Int) (x2 : Int) (h : Heap) : LeO (F46.t call lf ro ax0 lx0 cx0 x1 x2 h) (bodyK Tryd.prog call lf ro Tryd.f46 [.slice ax0 lx0 cx0, .int .i64 x1, .int .i64 x2] h) :=
  body_le (c := codeOf Tryd.f46) (H := F46.Ht call lf ro) (J := F46.Ut call lf ro) rfl (Nat.le_of_ble_eq_true rfl) ⟨(hd_free rfl), ⟨(hd_free rfl), ⟨(fun e h hs => F46.B2 call lf ro  lf e h hs), (hd_free rfl)⟩⟩⟩ (by kernel_rfl)

/-! ### barscan/barscanref32.numbers: function 47 -/

noncomputable def F47.J6 (call : CT) (lf ro : Nat) (kb2 : (Option Addr) → Nat → Nat → Int → Int → Int → (Option Addr) → Nat → Nat → Heap → Out) (a37 : Option Addr) (l37 : Nat) (c37 : Nat) (n38 : Int) (n39 : Int) (a40 : Option Addr) (l40 : Nat) (c40 : Nat) (n41 : Int) (n42 : Int) (h43 : Heap) : Out :=
  ifK (decide (n41 > n39)) (Out.ok (.tuple #[.slice none 0 0, .int .i64 0, .int .i64 3]) h43) (bindO (call ro 60 [.int .i64 n41, .int .i64 n39] h43) fun v51 h52 =>
  intK .u8 v51 fun n53 =>
  pushJ h52 1 [.int .u8 n53] fun h54 =>
  bindO (appO Tryd.prog ro 22 22 (.slice a40 l40 c40) (.slice (some ⟨h52.next, 0, none⟩) 1 1) h54) fun v55 h56 =>
  sliceK v55 fun a57 l57 c57 =>
  kb2 a37 l37 c37 n42 n38 n39 a57 l57 c57 h56)

noncomputable def F47.PJ6 (kb : (Option Addr) → Nat → Nat → Int → Int → (Option Addr) → Nat → Nat → Int → Int → Heap → Out) (e : Env) (h : Heap) : Out :=
  getK (e.get 0) fun w0 =>
  sliceK w0 fun a58 l58 c58 =>
  getK (e.get 2) fun w2 =>
  intK .i64 w2 fun n59 =>
  getK (e.get 3) fun w3 =>
  intK .i64 w3 fun n60 =>
  getK (e.get 11) fun w11 =>
  sliceK w11 fun a61 l61 c61 =>
  getK (e.get 12) fun w12 =>
  intK .i64 w12 fun n62 =>
  getK (e.get 13) fun w13 =>
  intK .i64 w13 fun n63 =>
  kb a58 l58 c58 n59 n60 a61 l61 c61 n62 n63 h

noncomputable def F47.J3 (call : CT) (lf ro : Nat) (kb2 : (Option Addr) → Nat → Nat → Int → Int → Int → (Option Addr) → Nat → Nat → Heap → Out) (a7 : Option Addr) (l7 : Nat) (c7 : Nat) (n8 : Int) (n9 : Int) (n10 : Int) (a11 : Option Addr) (l11 : Nat) (c11 : Nat) (h12 : Heap) : Out :=
  bindO (call ro 59 [.slice a7 l7 c7, .int .i64 n8] h12) fun v25 h26 =>
  tupK v25 fun q27 =>
  consK q27 fun x28 q29 =>
  intK .i64 x28 fun n30 =>
  consK q29 fun x31 q32 =>
  intK .i64 x31 fun n33 =>
  consK q32 fun x34 q35 =>
  intK .i64 x34 fun n36 =>
  nilK q35 <|
  ifK (n36 != 0) (Out.ok (.tuple #[.slice none 0 0, .int .i64 0, .int .i64 n36]) h26) (F47.J6 call lf ro kb2 a7 l7 c7 n9 n10 a11 l11 c11 n30 n33 h26)

noncomputable def F47.PJ3 (kb : (Option Addr) → Nat → Nat → Int → Int → Int → (Option Addr) → Nat → Nat → Heap → Out) (e : Env) (h : Heap) : Out :=
  getK (e.get 0) fun w0 =>
  sliceK w0 fun a64 l64 c64 =>
  getK (e.get 1) fun w1 =>
  intK .i64 w1 fun n65 =>
  getK (e.get 2) fun w2 =>
  intK .i64 w2 fun n66 =>
  getK (e.get 3) fun w3 =>
  intK .i64 w3 fun n67 =>
  getK (e.get 11) fun w11 =>
  sliceK w11 fun a68 l68 c68 =>
  kb a64 l64 c64 n65 n66 n67 a68 l68 c68 h

noncomputable def F47.J10 (call : CT) (lf ro : Nat) (a69 : Option Addr) (l69 : Nat) (c69 : Nat) (n70 : Int) (a71 : Option Addr) (l71 : Nat) (c71 : Nat) (h72 : Heap) : Out :=
  letJ (fun (b86 : Bool) (h87 : Heap) =>
  (ifK b86 (Out.ok (.tuple #[.slice none 0 0, .int .i64 0, .int .i64 9]) h87) (Out.ok (.tuple #[.slice a71 l71 c71, .int .i64 n70, .int .i64 0]) h87))) fun j88 =>
  ifK (decide (n70 < (l69 : Int))) (bindO (idxO Tryd.prog 22 (.slice a69 l69 c69) (.int .i64 n70) h72) fun v89 h90 =>
  bindO (loadO Tryd.prog 5 v89 h90) fun v91 h92 =>
  intK .u8 v91 fun n93 =>
  bindO (call ro 38 [.int .u8 n93] h92) fun v94 h95 =>
  boolK v94 fun b96 =>
  ifK (!b96) (bindO (idxO Tryd.prog 22 (.slice a69 l69 c69) (.int .i64 n70) h95) fun v97 h98 =>
  bindO (loadO Tryd.prog 5 v97 h98) fun v99 h100 =>
  intK .u8 v99 fun n101 =>
  j88 (n101 != 35) h100) (j88 false h95)) (j88 false h72)

noncomputable def F47.PJ10 (kb : (Option Addr) → Nat → Nat → Int → (Option Addr) → Nat → Nat → Heap → Out) (e : Env) (h : Heap) : Out :=
  getK (e.get 0) fun w0 =>
  sliceK w0 fun a102 l102 c102 =>
  getK (e.get 1) fun w1 =>
  intK .i64 w1 fun n103 =>
  getK (e.get 11) fun w11 =>
  sliceK w11 fun a104 l104 c104 =>
  kb a102 l102 c102 n103 a104 l104 c104 h

noncomputable def F47.L2 (call : CT) (lf ro : Nat) : Nat → (Option Addr) → Nat → Nat → Int → Int → Int → (Option Addr) → Nat → Nat → Heap → Out
  | 0, _, _, _, _, _, _, _, _, _, _ => .fail
  | n + 1, a1, l1, c1, n2, n3, n4, a5, l5, c5, h6 =>
  ifK (decide ((l5 : Int) < n3)) (F47.J3 call lf ro (F47.L2 call lf ro n) a1 l1 c1 n2 n3 n4 a5 l5 c5 h6) (F47.J10 call lf ro a1 l1 c1 n2 a5 l5 c5 h6)

noncomputable def F47.P2 (kb : (Option Addr) → Nat → Nat → Int → Int → Int → (Option Addr) → Nat → Nat → Heap → Out) (e : Env) (h : Heap) : Out :=
  getK (e.get 0) fun w0 =>
  sliceK w0 fun a105 l105 c105 =>
  getK (e.get 1) fun w1 =>
  intK .i64 w1 fun n106 =>
  getK (e.get 2) fun w2 =>
  intK .i64 w2 fun n107 =>
  getK (e.get 3) fun w3 =>
  intK .i64 w3 fun n108 =>
  getK (e.get 11) fun w11 =>
  sliceK w11 fun a109 l109 c109 =>
  kb a105 l105 c105 n106 n107 n108 a109 l109 c109 h

noncomputable def F47.t (call : CT) (lf ro : Nat) (ax0 : Option Addr) (lx0 : Nat) (cx0 : Nat) (x1 : Int) (x2 : Int) (x3 : Int) (h : Heap) : Out :=
  F47.L2 call lf ro lf ax0 lx0 cx0 x1 x2 x3 none 0 0 h

noncomputable def F47.Ht (call : CT) (lf ro : Nat) (i : Nat) (e : Env) (h : Heap) : Out := ifK (i == 2) (F47.P2 (F47.L2 call lf ro lf) e h) (.fail)
noncomputable def F47.Ut (call : CT) (lf ro : Nat) (i : Nat) : Option (Env → Heap → Out) := ifJ (i == 10) (some (F47.PJ10 (F47.J10 call lf ro))) (none)

noncomputable def F47.H2 (call : CT) (lf ro : Nat) (kb2 : (Option Addr) → Nat → Nat → Int → Int → Int → (Option Addr) → Nat → Nat → Heap → Out) (i : Nat) (e : Env) (h : Heap) : Out := ifK (i == 2) (F47.P2 (F47.L2 call lf ro lf) e h) (.fail)
noncomputable def F47.U2 (call : CT) (lf ro : Nat) (kb2 : (Option Addr) → Nat → Nat → Int → Int → Int → (Option Addr) → Nat → Nat → Heap → Out) (i : Nat) : Option (Env → Heap → Out) := ifJ (i == 10) (some (F47.PJ10 (F47.J10 call lf ro))) (ifJ (i == 6) (some (F47.PJ6 (F47.J6 call lf ro kb2))) (ifJ (i == 3) (some (F47.PJ3 (F47.J3 call lf ro kb2))) (none)))

noncomputable def F47.C2 (call : CT) (lf ro : Nat) : COut → Out := blockK 0 (seqH Tryd.prog call ro (F47.Ht call lf ro) (F47.Ut call lf ro) (sub (codeOf Tryd.f47) [true, true, true]) (endK Tryd.prog Tryd.f47))

noncomputable def F47.K2 (call : CT) (lf ro : Nat) : COut → Out := blockK 0 (seqK Tryd.prog call lf ro (sub (codeOf Tryd.f47) [true, true, true]) (endK Tryd.prog Tryd.f47))

noncomputable def F47.CJ10 (call : CT) (lf ro : Nat) : COut → Out := endK Tryd.prog Tryd.f47

noncomputable def F47.KJ10 (call : CT) (lf ro : Nat) : COut → Out := endK Tryd.prog Tryd.f47

noncomputable def F47.CJ6 (call : CT) (lf ro : Nat) (kb2 : (Option Addr) → Nat → Nat → Int → Int → Int → (Option Addr) → Nat → Nat → Heap → Out) : COut → Out := blockK 1 (outK (F47.P2 kb2) (fun i e h => F47.C2 call lf ro (.exit i e h)) (fun e h => F47.C2 call lf ro (.ret e h)))

noncomputable def F47.KJ6 (call : CT) (lf ro : Nat) (kb2 : (Option Addr) → Nat → Nat → Int → Int → Int → (Option Addr) → Nat → Nat → Heap → Out) : COut → Out := blockK 1 (outK (F47.P2 kb2) (fun i e h => F47.C2 call lf ro (.exit i e h)) (fun e h => F47.C2 call lf ro (.ret e h)))

noncomputable def F47.CJ3 (call : CT) (lf ro : Nat) (kb2 : (Option Addr) → Nat → Nat → Int → Int → Int → (Option Addr) → Nat → Nat → Heap → Out) : COut → Out := outK (F47.P2 kb2) (fun i e h => F47.C2 call lf ro (.exit i e h)) (fun e h => F47.C2 call lf ro (.ret e h))

noncomputable def F47.KJ3 (call : CT) (lf ro : Nat) (kb2 : (Option Addr) → Nat → Nat → Int → Int → Int → (Option Addr) → Nat → Nat → Heap → Out) : COut → Out := outK (F47.P2 kb2) (fun i e h => F47.C2 call lf ro (.exit i e h)) (fun e h => F47.C2 call lf ro (.ret e h))

theorem F47.RJ6 (call : CT) (lf ro : Nat) (kb2 : (Option Addr) → Nat → Nat → Int → Int → Int → (Option Addr) → Nat → Nat → Heap → Out) (f : Nat → Option Value) (a37 : Option Addr) (l37 : Nat) (c37 : Nat) (n38 : Int) (n39 : Int) (a40 : Option Addr) (l40 : Nat) (c40 : Nat) (n41 : Int) (n42 : Int) (h43 : Heap) :
    execH Tryd.prog call ro (F47.H2 call lf ro kb2) (F47.U2 call lf ro kb2) (sub (codeOf Tryd.f47) [true, true, false, false, false, true, false, true, true]) (EF 60 (updF (updF (updF (updF (updF (updF f 0 (some (.slice a37 l37 c37))) 2 (some (.int .i64 n38))) 3 (some (.int .i64 n39))) 11 (some (.slice a40 l40 c40))) 12 (some (.int .i64 n41))) 13 (some (.int .i64 n42)))) h43 (F47.CJ6 call lf ro kb2) = F47.J6 call lf ro kb2 a37 l37 c37 n38 n39 a40 l40 c40 n41 n42 h43 := by kernel_rfl

theorem F47.CKJ6 (call : CT) (lf ro : Nat) (kb2 : (Option Addr) → Nat → Nat → Int → Int → Int → (Option Addr) → Nat → Nat → Heap → Out) : KLe 60 (F47.CJ6 call lf ro kb2) (F47.KJ6 call lf ro kb2) :=
  (KLe.block (KLe.refl _))

theorem F47.BJ6 (call : CT) (lf ro : Nat) (kb2 : (Option Addr) → Nat → Nat → Int → Int → Int → (Option Addr) → Nat → Nat → Heap → Out) : ∀ e h, Shaped 60 e → LeO (F47.PJ6 (F47.J6 call lf ro kb2) e h) (execK Tryd.prog call lf ro (sub (codeOf Tryd.f47) [true, true, false, false, false, true, false, true, true]) e h (F47.KJ6 call lf ro kb2)) := by
    rintro e h ⟨f, rfl⟩
    unfold F47.PJ6
    refine getK_le fun w0 g0 => ?_
    rw [EF_get (by decide)] at g0
    refine sliceK_le fun a58 l58 c58 z110 => ?_
    subst z110
    refine getK_le fun w2 g2 => ?_
    rw [EF_get (by decide)] at g2
    refine intK_le fun n59 z111 => ?_
    subst z111
    refine getK_le fun w3 g3 => ?_
    rw [EF_get (by decide)] at g3
    refine intK_le fun n60 z112 => ?_
    subst z112
    refine getK_le fun w11 g11 => ?_
    rw [EF_get (by decide)] at g11
    refine sliceK_le fun a61 l61 c61 z113 => ?_
    subst z113
    refine getK_le fun w12 g12 => ?_
    rw [EF_get (by decide)] at g12
    refine intK_le fun n62 z114 => ?_
    subst z114
    refine getK_le fun w13 g13 => ?_
    rw [EF_get (by decide)] at g13
    refine intK_le fun n63 z115 => ?_
    subst z115
    have hr := F47.RJ6 call lf ro kb2 f a58 l58 c58 n59 n60 a61 l61 c61 n62 n63 h
    rw [updF_same g0, updF_same g2, updF_same g3, updF_same g11, updF_same g12, updF_same g13] at hr
    exact cut_le (H := (F47.H2 call lf ro kb2)) (J := (F47.U2 call lf ro kb2)) (F47.CKJ6 call lf ro kb2) (hd_free rfl) hr

theorem F47.RJ3 (call : CT) (lf ro : Nat) (kb2 : (Option Addr) → Nat → Nat → Int → Int → Int → (Option Addr) → Nat → Nat → Heap → Out) (f : Nat → Option Value) (a7 : Option Addr) (l7 : Nat) (c7 : Nat) (n8 : Int) (n9 : Int) (n10 : Int) (a11 : Option Addr) (l11 : Nat) (c11 : Nat) (h12 : Heap) :
    execH Tryd.prog call ro (F47.H2 call lf ro kb2) (F47.U2 call lf ro kb2) (sub (codeOf Tryd.f47) [true, true, false, false, false, true]) (EF 60 (updF (updF (updF (updF (updF f 0 (some (.slice a7 l7 c7))) 1 (some (.int .i64 n8))) 2 (some (.int .i64 n9))) 3 (some (.int .i64 n10))) 11 (some (.slice a11 l11 c11)))) h12 (F47.CJ3 call lf ro kb2) = F47.J3 call lf ro kb2 a7 l7 c7 n8 n9 n10 a11 l11 c11 h12 := by kernel_rfl

theorem F47.CKJ3 (call : CT) (lf ro : Nat) (kb2 : (Option Addr) → Nat → Nat → Int → Int → Int → (Option Addr) → Nat → Nat → Heap → Out) : KLe 60 (F47.CJ3 call lf ro kb2) (F47.KJ3 call lf ro kb2) :=
  (KLe.refl _)

theorem F47.BJ3 (call : CT) (lf ro : Nat) (kb2 : (Option Addr) → Nat → Nat → Int → Int → Int → (Option Addr) → Nat → Nat → Heap → Out) : ∀ e h, Shaped 60 e → LeO (F47.PJ3 (F47.J3 call lf ro kb2) e h) (execK Tryd.prog call lf ro (sub (codeOf Tryd.f47) [true, true, false, false, false, true]) e h (F47.KJ3 call lf ro kb2)) := by
    rintro e h ⟨f, rfl⟩
    unfold F47.PJ3
    refine getK_le fun w0 g0 => ?_
    rw [EF_get (by decide)] at g0
    refine sliceK_le fun a64 l64 c64 z122 => ?_
    subst z122
    refine getK_le fun w1 g1 => ?_
    rw [EF_get (by decide)] at g1
    refine intK_le fun n65 z123 => ?_
    subst z123
    refine getK_le fun w2 g2 => ?_
    rw [EF_get (by decide)] at g2
    refine intK_le fun n66 z124 => ?_
    subst z124
    refine getK_le fun w3 g3 => ?_
    rw [EF_get (by decide)] at g3
    refine intK_le fun n67 z125 => ?_
    subst z125
    refine getK_le fun w11 g11 => ?_
    rw [EF_get (by decide)] at g11
    refine sliceK_le fun a68 l68 c68 z126 => ?_
    subst z126
    have hr := F47.RJ3 call lf ro kb2 f a64 l64 c64 n65 n66 n67 a68 l68 c68 h
    rw [updF_same g0, updF_same g1, updF_same g2, updF_same g3, updF_same g11] at hr
    exact cut_le (H := (F47.H2 call lf ro kb2)) (J := (F47.U2 call lf ro kb2)) (F47.CKJ3 call lf ro kb2) ⟨(hd_free rfl), ⟨(hd_free rfl), (fun e h hs => F47.BJ6 call lf ro kb2 e h hs)⟩⟩ hr

theorem F47.RJ10 (call : CT) (lf ro : Nat) (f : Nat → Option Value) (a69 : Option Addr) (l69 : Nat) (c69 : Nat) (n70 : Int) (a71 : Option Addr) (l71 : Nat) (c71 : Nat) (h72 : Heap) :
    execH Tryd.prog call ro (F47.Ht call lf ro) (F47.Ut call lf ro) (sub (codeOf Tryd.f47) [true, true, true]) (EF 60 (updF (updF (updF f 0 (some (.slice a69 l69 c69))) 1 (some (.int .i64 n70))) 11 (some (.slice a71 l71 c71)))) h72 (F47.CJ10 call lf ro) = F47.J10 call lf ro a69 l69 c69 n70 a71 l71 c71 h72 := by kernel_rfl

theorem F47.CKJ10 (call : CT) (lf ro : Nat) : KLe 60 (F47.CJ10 call lf ro) (F47.KJ10 call lf ro) :=
  (KLe.refl _)

theorem F47.BJ10 (call : CT) (lf ro : Nat) : ∀ e h, Shaped 60 e → LeO (F47.PJ10 (F47.J10 call lf ro) e h) (execK Tryd.prog call lf ro (sub (codeOf Tryd.f47) [true, true, true]) e h (F47.KJ10 call lf ro)) := by
    rintro e h ⟨f, rfl⟩
    unfold F47.PJ10
    refine getK_le fun w0 g0 => ?_
    rw [EF_get (by decide)] at g0
    refine sliceK_le fun a102 l102 c102 z132 => ?_
    subst z132
    refine getK_le fun w1 g1 => ?_
    rw [EF_get (by decide)] at g1
    refine intK_le fun n103 z133 => ?_
    subst z133
    refine getK_le fun w11 g11 => ?_
    rw [EF_get (by decide)] at g11
    refine sliceK_le fun a104 l104 c104 z134 => ?_
    subst z134
    have hr := F47.RJ10 call lf ro f a102 l102 c102 n103 a104 l104 c104 h
    rw [updF_same g0, updF_same g1, updF_same g11] at hr
    exact cut_le (H := (F47.Ht call lf ro)) (J := (F47.Ut call lf ro)) (F47.CKJ10 call lf ro) (hd_free rfl) hr

theorem F47.R2 (call : CT) (lf ro : Nat) (n : Nat) (f : Nat → Option Value) (a1 : Option Addr) (l1 : Nat) (c1 : Nat) (n2 : Int) (n3 : Int) (n4 : Int) (a5 : Option Addr) (l5 : Nat) (c5 : Nat) (h6 : Heap) :
    execH Tryd.prog call ro (F47.H2 call lf ro (F47.L2 call lf ro n)) (F47.U2 call lf ro (F47.L2 call lf ro n)) (sub (codeOf Tryd.f47) [true, true, false, false, false]) (EF 60 (updF (updF (updF (updF (updF f 0 (some (.slice a1 l1 c1))) 1 (some (.int .i64 n2))) 2 (some (.int .i64 n3))) 3 (some (.int .i64 n4))) 11 (some (.slice a5 l5 c5)))) h6 (outK (F47.P2 (F47.L2 call lf ro n)) (fun i e h => F47.C2 call lf ro (.exit i e h)) (fun e h => F47.C2 call lf ro (.ret e h))) = F47.L2 call lf ro (n + 1) a1 l1 c1 n2 n3 n4 a5 l5 c5 h6 := by kernel_rfl

theorem F47.CK2 (call : CT) (lf ro : Nat) : KLe 60 (F47.C2 call lf ro) (F47.K2 call lf ro) :=
  (KLe.block (KLe.seq (H := (F47.Ht call lf ro)) (J := (F47.Ut call lf ro)) (KLe.refl _) (fun e h hs => F47.BJ10 call lf ro  e h hs)))

theorem F47.B2 (call : CT) (lf ro : Nat) : ∀ n e h, Shaped 60 e → LeO (F47.P2 (F47.L2 call lf ro n) e h) (loopK (execK Tryd.prog call lf ro (sub (codeOf Tryd.f47) [true, true, false, false, false])) n e h (F47.K2 call lf ro)) := by
  refine loop_le (fun e h k k' hs hk => execK_mono _ e h k k' hs hk) (kb := fun n => F47.P2 (F47.L2 call lf ro n)) (kx := fun i e h => F47.C2 call lf ro (.exit i e h)) (kr := fun e h => F47.C2 call lf ro (.ret e h)) ?_ ?_ (fun i e h hs => (F47.CK2 call lf ro).exit i e h hs) (fun e h hs => (F47.CK2 call lf ro).ret e h hs)
  · rintro e h ⟨f, rfl⟩
    unfold F47.P2
    refine getK_le fun w0 g0 => ?_
    rw [EF_get (by decide)] at g0
    refine sliceK_le fun a105 l105 c105 z138 => ?_
    subst z138
    refine getK_le fun w1 g1 => ?_
    rw [EF_get (by decide)] at g1
    refine intK_le fun n106 z139 => ?_
    subst z139
    refine getK_le fun w2 g2 => ?_
    rw [EF_get (by decide)] at g2
    refine intK_le fun n107 z140 => ?_
    subst z140
    refine getK_le fun w3 g3 => ?_
    rw [EF_get (by decide)] at g3
    refine intK_le fun n108 z141 => ?_
    subst z141
    refine getK_le fun w11 g11 => ?_
    rw [EF_get (by decide)] at g11
    refine sliceK_le fun a109 l109 c109 z142 => ?_
    subst z142
    exact LeO.refl _
  · rintro n e h ⟨f, rfl⟩
    unfold F47.P2
    refine getK_le fun w0 g0 => ?_
    rw [EF_get (by decide)] at g0
    refine sliceK_le fun a105 l105 c105 z143 => ?_
    subst z143
    refine getK_le fun w1 g1 => ?_
    rw [EF_get (by decide)] at g1
    refine intK_le fun n106 z144 => ?_
    subst z144
    refine getK_le fun w2 g2 => ?_
    rw [EF_get (by decide)] at g2
    refine intK_le fun n107 z145 => ?_
    subst z145
    refine getK_le fun w3 g3 => ?_
    rw [EF_get (by decide)] at g3
    refine intK_le fun n108 z146 => ?_
    subst z146
    refine getK_le fun w11 g11 => ?_
    rw [EF_get (by decide)] at g11
    refine sliceK_le fun a109 l109 c109 z147 => ?_
    subst z147
    have hr := F47.R2 call lf ro n f a105 l105 c105 n106 n107 n108 a109 l109 c109 h
    rw [updF_same g0, updF_same g1, updF_same g2, updF_same g3, updF_same g11] at hr
    exact round_le (H := (F47.H2 call lf ro (F47.L2 call lf ro n))) (J := (F47.U2 call lf ro (F47.L2 call lf ro n))) ⟨(hd_free rfl), (fun e h hs => F47.BJ3 call lf ro (F47.L2 call lf ro n) e h hs)⟩ hr

theorem F47.le (call : CT) (lf ro : Nat) (ax0 : Option Addr) (lx0 : Nat) (cx0 : Nat) (x1 : Int) (x2 : Int) (x3 : Int) (h : Heap) : LeO (F47.t call lf ro ax0 lx0 cx0 x1 x2 x3 h) (bodyK Tryd.prog call lf ro Tryd.f47 [.slice ax0 lx0 cx0, .int .i64 x1, .int .i64 x2, .int .i64 x3] h) :=
  body_le (c := codeOf Tryd.f47) (H := F47.Ht call lf ro) (J := F47.Ut call lf ro) rfl (Nat.le_of_ble_eq_true rfl) ⟨(hd_free rfl), ⟨(hd_free rfl), ⟨(fun e h hs => F47.B2 call lf ro  lf e h hs), (fun e h hs => F47.BJ10 call lf ro  e h hs)⟩⟩⟩ (by kernel_rfl)

/-! ### barscan/barscanref32.raw: function 48 -/

noncomputable def F48.J16 (call : CT) (lf ro : Nat) (kb11 : (Option Addr) → Nat → Nat → Int → Int → Int → Int → Int → Int → (Option Addr) → Nat → Nat → Int → Heap → Out) (kb14 : (Option Addr) → Nat → Nat → Int → Int → Int → Int → Int → Int → (Option Addr) → Nat → Nat → Int → Int → Heap → Out) (a71 : Option Addr) (l71 : Nat) (c71 : Nat) (n72 : Int) (n73 : Int) (n74 : Int) (n75 : Int) (n76 : Int) (n77 : Int) (a78 : Option Addr) (l78 : Nat) (c78 : Nat) (n79 : Int) (n80 : Int) (h81 : Heap) : Out :=
  letJ (fun (a718 : Option Addr) (l718 : Nat) (c718 : Nat) (h719 : Heap) =>
  (kb14 a71 l71 c71 n72 n73 n74 n75 n76 n77 a718 l718 c718 n79 (IntKind.i64.wrap (n80 + 1)) h719)) fun j720 =>
  ifK (n76 == 5) (bindO (idxO Tryd.prog 22 (.slice a71 l71 c71) (.int .i64 (IntKind.i64.wrap ((IntKind.i64.wrap (n72 + (IntKind.i64.wrap (n79 * n77)))) + n80))) h81) fun v726 h727 =>
  bindO (loadO Tryd.prog 5 v726 h727) fun v728 h729 =>
  intK .u8 v728 fun n730 =>
  ifK (decide (IntKind.i64.wrap n730 > n75)) (Out.ok (.tuple #[.slice none 0 0, .int .i64 0, .int .i64 3]) h729) (bindO (call ro 60 [.int .i64 (IntKind.i64.wrap n730), .int .i64 n75] h729) fun v731 h732 =>
  intK .u8 v731 fun n733 =>
  pushJ h732 1 [.int .u8 n733] fun h734 =>
  bindO (appO Tryd.prog ro 22 22 (.slice a78 l78 c78) (.slice (some ⟨h732.next, 0, none⟩) 1 1) h734) fun v735 h736 =>
  sliceK v735 fun a737 l737 c737 =>
  j720 a737 l737 c737 h736)) (bindO (idxO Tryd.prog 22 (.slice a71 l71 c71) (.int .i64 (IntKind.i64.wrap ((IntKind.i64.wrap (n72 + (IntKind.i64.wrap (n79 * n77)))) + (IntKind.i64.wrap (Int.tdiv n80 8))))) h81) fun v746 h747 =>
  bindO (loadO Tryd.prog 5 v746 h747) fun v748 h749 =>
  intK .u8 v748 fun n750 =>
  bindO (binO Tryd.prog .shr 5 false (.int .u8 n750) (.int .u64 (IntKind.u64.wrap (IntKind.i64.wrap (7 - (Int.tmod n80 8))))) h749) fun v751 h752 =>
  intK .u8 v751 fun n753 =>
  ifK ((Int.tmod n753 2) == 1) (pushJ h752 1 [.int .u8 0] fun h754 =>
  bindO (appO Tryd.prog ro 22 22 (.slice a78 l78 c78) (.slice (some ⟨h752.next, 0, none⟩) 1 1) h754) fun v755 h756 =>
  sliceK v755 fun a757 l757 c757 =>
  j720 a757 l757 c757 h756) (pushJ h752 1 [.int .u8 255] fun h758 =>
  bindO (appO Tryd.prog ro 22 22 (.slice a78 l78 c78) (.slice (some ⟨h752.next, 0, none⟩) 1 1) h758) fun v759 h760 =>
  sliceK v759 fun a761 l761 c761 =>
  j720 a761 l761 c761 h760))

noncomputable def F48.PJ16 (kb : (Option Addr) → Nat → Nat → Int → Int → Int → Int → Int → Int → (Option Addr) → Nat → Nat → Int → Int → Heap → Out) (e : Env) (h : Heap) : Out :=
  getK (e.get 0) fun w0 =>
  sliceK w0 fun a762 l762 c762 =>
  getK (e.get 1) fun w1 =>
  intK .i64 w1 fun n763 =>
  getK (e.get 2) fun w2 =>
  intK .i64 w2 fun n764 =>
  getK (e.get 3) fun w3 =>
  intK .i64 w3 fun n765 =>
  getK (e.get 4) fun w4 =>
  intK .i64 w4 fun n766 =>
  getK (e.get 5) fun w5 =>
  intK .i64 w5 fun n767 =>
  getK (e.get 15) fun w15 =>
  intK .i64 w15 fun n768 =>
  getK (e.get 16) fun w16 =>
  sliceK w16 fun a769 l769 c769 =>
  getK (e.get 17) fun w17 =>
  intK .i64 w17 fun n770 =>
  getK (e.get 18) fun w18 =>
  intK .i64 w18 fun n771 =>
  kb a762 l762 c762 n763 n764 n765 n766 n767 n768 a769 l769 c769 n770 n771 h

noncomputable def F48.L14 (call : CT) (lf ro : Nat) (kb11 : (Option Addr) → Nat → Nat → Int → Int → Int → Int → Int → Int → (Option Addr) → Nat → Nat → Int → Heap → Out) : Nat → (Option Addr) → Nat → Nat → Int → Int → Int → Int → Int → Int → (Option Addr) → Nat → Nat → Int → Int → Heap → Out
  | 0, _, _, _, _, _, _, _, _, _, _, _, _, _, _, _ => .fail
  | n + 1, a60, l60, c60, n61, n62, n63, n64, n65, n66, a67, l67, c67, n68, n69, h70 =>
  ifK (decide (n69 < n62)) (F48.J16 call lf ro kb11 (F48.L14 call lf ro kb11 n) a60 l60 c60 n61 n62 n63 n64 n65 n66 a67 l67 c67 n68 n69 h70) (kb11 a60 l60 c60 n61 n62 n63 n64 n65 n66 a67 l67 c67 (IntKind.i64.wrap (n68 + 1)) h70)

noncomputable def F48.P14 (kb : (Option Addr) → Nat → Nat → Int → Int → Int → Int → Int → Int → (Option Addr) → Nat → Nat → Int → Int → Heap → Out) (e : Env) (h : Heap) : Out :=
  getK (e.get 0) fun w0 =>
  sliceK w0 fun a772 l772 c772 =>
  getK (e.get 1) fun w1 =>
  intK .i64 w1 fun n773 =>
  getK (e.get 2) fun w2 =>
  intK .i64 w2 fun n774 =>
  getK (e.get 3) fun w3 =>
  intK .i64 w3 fun n775 =>
  getK (e.get 4) fun w4 =>
  intK .i64 w4 fun n776 =>
  getK (e.get 5) fun w5 =>
  intK .i64 w5 fun n777 =>
  getK (e.get 15) fun w15 =>
  intK .i64 w15 fun n778 =>
  getK (e.get 16) fun w16 =>
  sliceK w16 fun a779 l779 c779 =>
  getK (e.get 17) fun w17 =>
  intK .i64 w17 fun n780 =>
  getK (e.get 18) fun w18 =>
  intK .i64 w18 fun n781 =>
  kb a772 l772 c772 n773 n774 n775 n776 n777 n778 a779 l779 c779 n780 n781 h

noncomputable def F48.J13 (call : CT) (lf ro : Nat) (kb11 : (Option Addr) → Nat → Nat → Int → Int → Int → Int → Int → Int → (Option Addr) → Nat → Nat → Int → Heap → Out) (a50 : Option Addr) (l50 : Nat) (c50 : Nat) (n51 : Int) (n52 : Int) (n53 : Int) (n54 : Int) (n55 : Int) (n56 : Int) (a57 : Option Addr) (l57 : Nat) (c57 : Nat) (n58 : Int) (h59 : Heap) : Out :=
  F48.L14 call lf ro kb11 lf a50 l50 c50 n51 n52 n53 n54 n55 n56 a57 l57 c57 n58 0 h59

noncomputable def F48.PJ13 (kb : (Option Addr) → Nat → Nat → Int → Int → Int → Int → Int → Int → (Option Addr) → Nat → Nat → Int → Heap → Out) (e : Env) (h : Heap) : Out :=
  getK (e.get 0) fun w0 =>
  sliceK w0 fun a782 l782 c782 =>
  getK (e.get 1) fun w1 =>
  intK .i64 w1 fun n783 =>
  getK (e.get 2) fun w2 =>
  intK .i64 w2 fun n784 =>
  getK (e.get 3) fun w3 =>
  intK .i64 w3 fun n785 =>
  getK (e.get 4) fun w4 =>
  intK .i64 w4 fun n786 =>
  getK (e.get 5) fun w5 =>
  intK .i64 w5 fun n787 =>
  getK (e.get 15) fun w15 =>
  intK .i64 w15 fun n788 =>
  getK (e.get 16) fun w16 =>
  sliceK w16 fun a789 l789 c789 =>
  getK (e.get 17) fun w17 =>
  intK .i64 w17 fun n790 =>
  kb a782 l782 c782 n783 n784 n785 n786 n787 n788 a789 l789 c789 n790 h

noncomputable def F48.L11 (call : CT) (lf ro : Nat) : Nat → (Option Addr) → Nat → Nat → Int → Int → Int → Int → Int → Int → (Option Addr) → Nat → Nat → Int → Heap → Out
  | 0, _, _, _, _, _, _, _, _, _, _, _, _, _, _ => .fail
  | n + 1, a40, l40, c40, n41, n42, n43, n44, n45, n46, a47, l47, c47, n48, h49 =>
  ifK (decide (n48 < n43)) (F48.J13 call lf ro (F48.L11 call lf ro n) a40 l40 c40 n41 n42 n43 n44 n45 n46 a47 l47 c47 n48 h49) (Out.ok (.tuple #[.slice a47 l47 c47, .int .i64 (IntKind.i64.wrap (n41 + (IntKind.i64.wrap (n46 * n43)))), .int .i64 0]) h49)

noncomputable def F48.P11 (kb : (Option Addr) → Nat → Nat → Int → Int → Int → Int → Int → Int → (Option Addr) → Nat → Nat → Int → Heap → Out) (e : Env) (h : Heap) : Out :=
  getK (e.get 0) fun w0 =>
  sliceK w0 fun a791 l791 c791 =>
  getK (e.get 1) fun w1 =>
  intK .i64 w1 fun n792 =>
  getK (e.get 2) fun w2 =>
  intK .i64 w2 fun n793 =>
  getK (e.get 3) fun w3 =>
  intK .i64 w3 fun n794 =>
  getK (e.get 4) fun w4 =>
  intK .i64 w4 fun n795 =>
  getK (e.get 5) fun w5 =>
  intK .i64 w5 fun n796 =>
  getK (e.get 15) fun w15 =>
  intK .i64 w15 fun n797 =>
  getK (e.get 16) fun w16 =>
  sliceK w16 fun a798 l798 c798 =>
  getK (e.get 17) fun w17 =>
  intK .i64 w17 fun n799 =>
  kb a791 l791 c791 n792 n793 n794 n795 n796 n797 a798 l798 c798 n799 h

noncomputable def F48.J9 (call : CT) (lf ro : Nat) (a32 : Option Addr) (l32 : Nat) (c32 : Nat) (n33 : Int) (n34 : Int) (n35 : Int) (n36 : Int) (n37 : Int) (n38 : Int) (h39 : Heap) : Out :=
  F48.L11 call lf ro lf a32 l32 c32 n33 n34 n35 n36 n37 n38 none 0 0 0 h39

noncomputable def F48.PJ9 (kb : (Option Addr) → Nat → Nat → Int → Int → Int → Int → Int → Int → Heap → Out) (e : Env) (h : Heap) : Out :=
  getK (e.get 0) fun w0 =>
  sliceK w0 fun a800 l800 c800 =>
  getK (e.get 1) fun w1 =>
  intK .i64 w1 fun n801 =>
  getK (e.get 2) fun w2 =>
  intK .i64 w2 fun n802 =>
  getK (e.get 3) fun w3 =>
  intK .i64 w3 fun n803 =>
  getK (e.get 4) fun w4 =>
  intK .i64 w4 fun n804 =>
  getK (e.get 5) fun w5 =>
  intK .i64 w5 fun n805 =>
  getK (e.get 15) fun w15 =>
  intK .i64 w15 fun n806 =>
  kb a800 l800 c800 n801 n802 n803 n804 n805 n806 h

noncomputable def F48.J7 (call : CT) (lf ro : Nat) (a24 : Option Addr) (l24 : Nat) (c24 : Nat) (n25 : Int) (n26 : Int) (n27 : Int) (n28 : Int) (n29 : Int) (n30 : Int) (h31 : Heap) : Out :=
  ifK (decide (IntKind.i64.wrap (n30 * n27) > IntKind.i64.wrap ((l24 : Int) - n25))) (Out.ok (.tuple #[.slice none 0 0, .int .i64 0, .int .i64 10]) h31) (F48.J9 call lf ro a24 l24 c24 n25 n26 n27 n28 n29 n30 h31)

noncomputable def F48.PJ7 (kb : (Option Addr) → Nat → Nat → Int → Int → Int → Int → Int → Int → Heap → Out) (e : Env) (h : Heap) : Out :=
  getK (e.get 0) fun w0 =>
  sliceK w0 fun a807 l807 c807 =>
  getK (e.get 1) fun w1 =>
  intK .i64 w1 fun n808 =>
  getK (e.get 2) fun w2 =>
  intK .i64 w2 fun n809 =>
  getK (e.get 3) fun w3 =>
  intK .i64 w3 fun n810 =>
  getK (e.get 4) fun w4 =>
  intK .i64 w4 fun n811 =>
  getK (e.get 5) fun w5 =>
  intK .i64 w5 fun n812 =>
  getK (e.get 15) fun w15 =>
  intK .i64 w15 fun n813 =>
  kb a807 l807 c807 n808 n809 n810 n811 n812 n813 h

noncomputable def F48.J3 (call : CT) (lf ro : Nat) (a17 : Option Addr) (l17 : Nat) (c17 : Nat) (n18 : Int) (n19 : Int) (n20 : Int) (n21 : Int) (n22 : Int) (h23 : Heap) : Out :=
  ifK (n22 == 4) (F48.J7 call lf ro a17 l17 c17 (IntKind.i64.wrap (n18 + 1)) n19 n20 n21 n22 (IntKind.i64.wrap (Int.tdiv (IntKind.i64.wrap (n19 + 7)) 8)) h23) (F48.J7 call lf ro a17 l17 c17 (IntKind.i64.wrap (n18 + 1)) n19 n20 n21 n22 n19 h23)

noncomputable def F48.PJ3 (kb : (Option Addr) → Nat → Nat → Int → Int → Int → Int → Int → Heap → Out) (e : Env) (h : Heap) : Out :=
  getK (e.get 0) fun w0 =>
  sliceK w0 fun a814 l814 c814 =>
  getK (e.get 1) fun w1 =>
  intK .i64 w1 fun n815 =>
  getK (e.get 2) fun w2 =>
  intK .i64 w2 fun n816 =>
  getK (e.get 3) fun w3 =>
  intK .i64 w3 fun n817 =>
  getK (e.get 4) fun w4 =>
  intK .i64 w4 fun n818 =>
  getK (e.get 5) fun w5 =>
  intK .i64 w5 fun n819 =>
  kb a814 l814 c814 n815 n816 n817 n818 n819 h

noncomputable def F48.t (call : CT) (lf ro : Nat) (ax0 : Option Addr) (lx0 : Nat) (cx0 : Nat) (x1 : Int) (x2 : Int) (x3 : Int) (x4 : Int) (x5 : Int) (h : Heap) : Out :=
  bindO (idxO Tryd.prog 22 (.slice ax0 lx0 cx0) (.int .i64 x1) h) fun v9 h10 =>
  bindO (loadO Tryd.prog 5 v9 h10) fun v11 h12 =>
  intK .u8 v11 fun n13 =>
  bindO (call ro 38 [.int .u8 n13] h12) fun v14 h15 =>
  boolK v14 fun b16 =>
  ifK (!b16) (Out.ok (.tuple #[.slice none 0 0, .int .i64 0, .int .i64 9]) h15) (F48.J3 call lf ro ax0 lx0 cx0 x1 x2 x3 x4 x5 h15)

noncomputable def F48.Ht (call : CT) (lf ro : Nat) (i : Nat) (e : Env) (h : Heap) : Out := ifK (i == 11) (F48.P11 (F48.L11 call lf ro lf) e h) (.fail)
noncomputable def F48.Ut (call : CT) (lf ro : Nat) (i : Nat) : Option (Env → Heap → Out) := ifJ (i == 9) (some (F48.PJ9 (F48.J9 call lf ro))) (ifJ (i == 7) (some (F48.PJ7 (F48.J7 call lf ro))) (ifJ (i == 3) (some (F48.PJ3 (F48.J3 call lf ro))) (none)))

noncomputable def F48.H14 (call : CT) (lf ro : Nat) (kb11 : (Option Addr) → Nat → Nat → Int → Int → Int → Int → Int → Int → (Option Addr) → Nat → Nat → Int → Heap → Out) (kb14 : (Option Addr) → Nat → Nat → Int → Int → Int → Int → Int → Int → (Option Addr) → Nat → Nat → Int → Int → Heap → Out) (i : Nat) (e : Env) (h : Heap) : Out := ifK (i == 14) (F48.P14 (F48.L14 call lf ro kb11 lf) e h) (ifK (i == 11) (F48.P11 (F48.L11 call lf ro lf) e h) (.fail))
noncomputable def F48.U14 (call : CT) (lf ro : Nat) (kb11 : (Option Addr) → Nat → Nat → Int → Int → Int → Int → Int → Int → (Option Addr) → Nat → Nat → Int → Heap → Out) (kb14 : (Option Addr) → Nat → Nat → Int → Int → Int → Int → Int → Int → (Option Addr) → Nat → Nat → Int → Int → Heap → Out) (i : Nat) : Option (Env → Heap → Out) := ifJ (i == 16) (some (F48.PJ16 (F48.J16 call lf ro kb11 kb14))) (ifJ (i == 13) (some (F48.PJ13 (F48.J13 call lf ro kb11))) (ifJ (i == 9) (some (F48.PJ9 (F48.J9 call lf ro))) (ifJ (i == 7) (some (F48.PJ7 (F48.J7 call lf ro))) (ifJ (i == 3) (some (F48.PJ3 (F48.J3 call lf ro))) (none)))))

noncomputable def F48.H11 (call : CT) (lf ro : Nat) (kb11 : (Option Addr) → Nat → Nat → Int → Int → Int → Int → Int → Int → (Option Addr) → Nat → Nat → Int → Heap → Out) (i : Nat) (e : Env) (h : Heap) : Out := ifK (i == 14) (F48.P14 (F48.L14 call lf ro kb11 lf) e h) (ifK (i == 11) (F48.P11 (F48.L11 call lf ro lf) e h) (.fail))
noncomputable def F48.U11 (call : CT) (lf ro : Nat) (kb11 : (Option Addr) → Nat → Nat → Int → Int → Int → Int → Int → Int → (Option Addr) → Nat → Nat → Int → Heap → Out) (i : Nat) : Option (Env → Heap → Out) := ifJ (i == 13) (some (F48.PJ13 (F48.J13 call lf ro kb11))) (ifJ (i == 9) (some (F48.PJ9 (F48.J9 call lf ro))) (ifJ (i == 7) (some (F48.PJ7 (F48.J7 call lf ro))) (ifJ (i == 3) (some (F48.PJ3 (F48.J3 call lf ro))) (none))))

noncomputable def F48.C11 (call : CT) (lf ro : Nat) : COut → Out := blockK 0 (seqH Tryd.prog call ro (F48.Ht call lf ro) (F48.Ut call lf ro) (sub (codeOf Tryd.f48) [true, true, true, true, true, true, true, true]) (endK Tryd.prog Tryd.f48))

noncomputable def F48.K11 (call : CT) (lf ro : Nat) : COut → Out := blockK 0 (seqK Tryd.prog call lf ro (sub (codeOf Tryd.f48) [true, true, true, true, true, true, true, true]) (endK Tryd.prog Tryd.f48))

noncomputable def F48.CJ9 (call : CT) (lf ro : Nat) : COut → Out := endK Tryd.prog Tryd.f48

noncomputable def F48.KJ9 (call : CT) (lf ro : Nat) : COut → Out := endK Tryd.prog Tryd.f48

noncomputable def F48.CJ7 (call : CT) (lf ro : Nat) : COut → Out := endK Tryd.prog Tryd.f48

noncomputable def F48.KJ7 (call : CT) (lf ro : Nat) : COut → Out := endK Tryd.prog Tryd.f48

noncomputable def F48.CJ3 (call : CT) (lf ro : Nat) : COut → Out := endK Tryd.prog Tryd.f48

noncomputable def F48.KJ3 (call : CT) (lf ro : Nat) : COut → Out := endK Tryd.prog Tryd.f48

noncomputable def F48.C14 (call : CT) (lf ro : Nat) (kb11 : (Option Addr) → Nat → Nat → Int → Int → Int → Int → Int → Int → (Option Addr) → Nat → Nat → Int → Heap → Out) : COut → Out := blockK 2 (blockK 1 (seqH Tryd.prog call ro (F48.H11 call lf ro kb11) (F48.U11 call lf ro kb11) (sub (codeOf Tryd.f48) [true, true, true, true, true, true, true, false, true, false, false, true, true]) (outK (F48.P11 kb11) (fun i e h => F48.C11 call lf ro (.exit i e h)) (fun e h => F48.C11 call lf ro (.ret e h)))))

noncomputable def F48.K14 (call : CT) (lf ro : Nat) (kb11 : (Option Addr) → Nat → Nat → Int → Int → Int → Int → Int → Int → (Option Addr) → Nat → Nat → Int → Heap → Out) : COut → Out := blockK 2 (blockK 1 (seqK Tryd.prog call lf ro (sub (codeOf Tryd.f48) [true, true, true, true, true, true, true, false, true, false, false, true, true]) (outK (F48.P11 kb11) (fun i e h => F48.C11 call lf ro (.exit i e h)) (fun e h => F48.C11 call lf ro (.ret e h)))))

noncomputable def F48.CJ13 (call : CT) (lf ro : Nat) (kb11 : (Option Addr) → Nat → Nat → Int → Int → Int → Int → Int → Int → (Option Addr) → Nat → Nat → Int → Heap → Out) : COut → Out := outK (F48.P11 kb11) (fun i e h => F48.C11 call lf ro (.exit i e h)) (fun e h => F48.C11 call lf ro (.ret e h))

noncomputable def F48.KJ13 (call : CT) (lf ro : Nat) (kb11 : (Option Addr) → Nat → Nat → Int → Int → Int → Int → Int → Int → (Option Addr) → Nat → Nat → Int → Heap → Out) : COut → Out := outK (F48.P11 kb11) (fun i e h => F48.C11 call lf ro (.exit i e h)) (fun e h => F48.C11 call lf ro (.ret e h))

noncomputable def F48.CJ16 (call : CT) (lf ro : Nat) (kb11 : (Option Addr) → Nat → Nat → Int → Int → Int → Int → Int → Int → (Option Addr) → Nat → Nat → Int → Heap → Out) (kb14 : (Option Addr) → Nat → Nat → Int → Int → Int → Int → Int → Int → (Option Addr) → Nat → Nat → Int → Int → Heap → Out) : COut → Out := outK (F48.P14 kb14) (fun i e h => F48.C14 call lf ro kb11 (.exit i e h)) (fun e h => F48.C14 call lf ro kb11 (.ret e h))

noncomputable def F48.KJ16 (call : CT) (lf ro : Nat) (kb11 : (Option Addr) → Nat → Nat → Int → Int → Int → Int → Int → Int → (Option Addr) → Nat → Nat → Int → Heap → Out) (kb14 : (Option Addr) → Nat → Nat → Int → Int → Int → Int → Int → Int → (Option Addr) → Nat → Nat → Int → Int → Heap → Out) : COut → Out := outK (F48.P14 kb14) (fun i e h => F48.C14 call lf ro kb11 (.exit i e h)) (fun e h => F48.C14 call lf ro kb11 (.ret e h))

theorem F48.RJ16 (call : CT) (lf ro : Nat) (kb11 : (Option Addr) → Nat → Nat → Int → Int → Int → Int → Int → Int → (Option Addr) → Nat → Nat → Int → Heap → Out) (kb14 : (Option Addr) → Nat → Nat → Int → Int → Int → Int → Int → Int → (Option Addr) → Nat → Nat → Int → Int → Heap → Out) (f : Nat → Option Value) (a71 : Option Addr) (l71 : Nat) (c71 : Nat) (n72 : Int) (n73 : Int) (n74 : Int) (n75 : Int) (n76 : Int) (n77 : Int) (a78 : Option Addr) (l78 : Nat) (c78 : Nat) (n79 : Int) (n80 : Int) (h81 : Heap) :
    execH Tryd.prog call ro (F48.H14 call lf ro kb11 kb14) (F48.U14 call lf ro kb11 kb14) (sub (codeOf Tryd.f48) [true, true, true, true, true, true, true, false, true, false, false, true, false, false, true, false, false, true]) (EF 104 (updF (updF (updF (updF (updF (updF (updF (updF (updF (updF f 0 (some (.slice a71 l71 c71))) 1 (some (.int .i64 n72))) 2 (some (.int .i64 n73))) 3 (some (.int .i64 n74))) 4 (some (.int .i64 n75))) 5 (some (.int .i64 n76))) 15 (some (.int .i64 n77))) 16 (some (.slice a78 l78 c78))) 17 (some (.int .i64 n79))) 18 (some (.int .i64 n80)))) h81 (F48.CJ16 call lf ro kb11 kb14) = F48.J16 call lf ro kb11 kb14 a71 l71 c71 n72 n73 n74 n75 n76 n77 a78 l78 c78 n79 n80 h81 := by kernel_rfl

theorem F48.CKJ16 (call : CT) (lf ro : Nat) (kb11 : (Option Addr) → Nat → Nat → Int → Int → Int → Int → Int → Int → (Option Addr) → Nat → Nat → Int → Heap → Out) (kb14 : (Option Addr) → Nat → Nat → Int → Int → Int → Int → Int → Int → (Option Addr) → Nat → Nat → Int → Int → Heap → Out) : KLe 104 (F48.CJ16 call lf ro kb11 kb14) (F48.KJ16 call lf ro kb11 kb14) :=
  (KLe.refl _)

theorem F48.BJ16 (call : CT) (lf ro : Nat) (kb11 : (Option Addr) → Nat → Nat → Int → Int → Int → Int → Int → Int → (Option Addr) → Nat → Nat → Int → Heap → Out) (kb14 : (Option Addr) → Nat → Nat → Int → Int → Int → Int → Int → Int → (Option Addr) → Nat → Nat → Int → Int → Heap → Out) : ∀ e h, Shaped 104 e → LeO (F48.PJ16 (F48.J16 call lf ro kb11 kb14) e h) (execK Tryd.prog call lf ro (sub (codeOf Tryd.f48) [true, true, true, true, true, true, true, false, true, false, false, true, false, false, true, false, false, true]) e h (F48.KJ16 call lf ro kb11 kb14)) := by
    rintro e h ⟨f, rfl⟩
    unfold F48.PJ16
    refine getK_le fun w0 g0 => ?_
    rw [EF_get (by decide)] at g0
    refine sliceK_le fun a762 l762 c762 z820 => ?_
    subst z820
    refine getK_le fun w1 g1 => ?_
    rw [EF_get (by decide)] at g1
    refine intK_le fun n763 z821 => ?_
    subst z821
    refine getK_le fun w2 g2 => ?_
    rw [EF_get (by decide)] at g2
    refine intK_le fun n764 z822 => ?_
    subst z822
    refine getK_le fun w3 g3 => ?_
    rw [EF_get (by decide)] at g3
    refine intK_le fun n765 z823 => ?_
    subst z823
    refine getK_le fun w4 g4 => ?_
    rw [EF_get (by decide)] at g4
    refine intK_le fun n766 z824 => ?_
    subst z824
    refine getK_le fun w5 g5 => ?_
    rw [EF_get (by decide)] at g5
    refine intK_le fun n767 z825 => ?_
    subst z825
    refine getK_le fun w15 g15 => ?_
    rw [EF_get (by decide)] at g15
    refine intK_le fun n768 z826 => ?_
    subst z826
    refine getK_le fun w16 g16 => ?_
    rw [EF_get (by decide)] at g16
    refine sliceK_le fun a769 l769 c769 z827 => ?_
    subst z827
    refine getK_le fun w17 g17 => ?_
    rw [EF_get (by decide)] at g17
    refine intK_le fun n770 z828 => ?_
    subst z828
    refine getK_le fun w18 g18 => ?_
    rw [EF_get (by decide)] at g18
    refine intK_le fun n771 z829 => ?_
    subst z829
    have hr := F48.RJ16 call lf ro kb11 kb14 f a762 l762 c762 n763 n764 n765 n766 n767 n768 a769 l769 c769 n770 n771 h
    rw [updF_same g0, updF_same g1, updF_same g2, updF_same g3, updF_same g4, updF_same g5, updF_same g15, updF_same g16, updF_same g17, updF_same g18] at hr
    exact cut_le (H := (F48.H14 call lf ro kb11 kb14)) (J := (F48.U14 call lf ro kb11 kb14)) (F48.CKJ16 call lf ro kb11 kb14) (hd_free rfl) hr

theorem F48.R14 (call : CT) (lf ro : Nat) (kb11 : (Option Addr) → Nat → Nat → Int → Int → Int → Int → Int → Int → (Option Addr) → Nat → Nat → Int → Heap → Out) (n : Nat) (f : Nat → Option Value) (a60 : Option Addr) (l60 : Nat) (c60 : Nat) (n61 : Int) (n62 : Int) (n63 : Int) (n64 : Int) (n65 : Int) (n66 : Int) (a67 : Option Addr) (l67 : Nat) (c67 : Nat) (n68 : Int) (n69 : Int) (h70 : Heap) :
    execH Tryd.prog call ro (F48.H14 call lf ro kb11 (F48.L14 call lf ro kb11 n)) (F48.U14 call lf ro kb11 (F48.L14 call lf ro kb11 n)) (sub (codeOf Tryd.f48) [true, true, true, true, true, true, true, false, true, false, false, true, false, false, true, false, false]) (EF 104 (updF (updF (updF (updF (updF (updF (updF (updF (updF (updF f 0 (some (.slice a60 l60 c60))) 1 (some (.int .i64 n61))) 2 (some (.int .i64 n62))) 3 (some (.int .i64 n63))) 4 (some (.int .i64 n64))) 5 (some (.int .i64 n65))) 15 (some (.int .i64 n66))) 16 (some (.slice a67 l67 c67))) 17 (some (.int .i64 n68))) 18 (some (.int .i64 n69)))) h70 (outK (F48.P14 (F48.L14 call lf ro kb11 n)) (fun i e h => F48.C14 call lf ro kb11 (.exit i e h)) (fun e h => F48.C14 call lf ro kb11 (.ret e h))) = F48.L14 call lf ro kb11 (n + 1) a60 l60 c60 n61 n62 n63 n64 n65 n66 a67 l67 c67 n68 n69 h70 := by kernel_rfl

theorem F48.CK14 (call : CT) (lf ro : Nat) (kb11 : (Option Addr) → Nat → Nat → Int → Int → Int → Int → Int → Int → (Option Addr) → Nat → Nat → Int → Heap → Out) : KLe 104 (F48.C14 call lf ro kb11) (F48.K14 call lf ro kb11) :=
  (KLe.block (KLe.block (KLe.seq (H := (F48.H11 call lf ro kb11)) (J := (F48.U11 call lf ro kb11)) (KLe.refl _) (hd_free rfl))))

theorem F48.B14 (call : CT) (lf ro : Nat) (kb11 : (Option Addr) → Nat → Nat → Int → Int → Int → Int → Int → Int → (Option Addr) → Nat → Nat → Int → Heap → Out) : ∀ n e h, Shaped 104 e → LeO (F48.P14 (F48.L14 call lf ro kb11 n) e h) (loopK (execK Tryd.prog call lf ro (sub (codeOf Tryd.f48) [true, true, true, true, true, true, true, false, true, false, false, true, false, false, true, false, false])) n e h (F48.K14 call lf ro kb11)) := by
  refine loop_le (fun e h k k' hs hk => execK_mono _ e h k k' hs hk) (kb := fun n => F48.P14 (F48.L14 call lf ro kb11 n)) (kx := fun i e h => F48.C14 call lf ro kb11 (.exit i e h)) (kr := fun e h => F48.C14 call lf ro kb11 (.ret e h)) ?_ ?_ (fun i e h hs => (F48.CK14 call lf ro kb11).exit i e h hs) (fun e h hs => (F48.CK14 call lf ro kb11).ret e h hs)
  · rintro e h ⟨f, rfl⟩
    unfold F48.P14
    refine getK_le fun w0 g0 => ?_
    rw [EF_get (by decide)] at g0
    refine sliceK_le fun a772 l772 c772 z840 => ?_
    subst z840
    refine getK_le fun w1 g1 => ?_
    rw [EF_get (by decide)] at g1
    refine intK_le fun n773 z841 => ?_
    subst z841
    refine getK_le fun w2 g2 => ?_
    rw [EF_get (by decide)] at g2
    refine intK_le fun n774 z842 => ?_
    subst z842
    refine getK_le fun w3 g3 => ?_
    rw [EF_get (by decide)] at g3
    refine intK_le fun n775 z843 => ?_
    subst z843
    refine getK_le fun w4 g4 => ?_
    rw [EF_get (by decide)] at g4
    refine intK_le fun n776 z844 => ?_
    subst z844
    refine getK_le fun w5 g5 => ?_
    rw [EF_get (by decide)] at g5
    refine intK_le fun n777 z845 => ?_
    subst z845
    refine getK_le fun w15 g15 => ?_
    rw [EF_get (by decide)] at g15
    refine intK_le fun n778 z846 => ?_
    subst z846
    refine getK_le fun w16 g16 => ?_
    rw [EF_get (by decide)] at g16
    refine sliceK_le fun a779 l779 c779 z847 => ?_
    subst z847
    refine getK_le fun w17 g17 => ?_
    rw [EF_get (by decide)] at g17
    refine intK_le fun n780 z848 => ?_
    subst z848
    refine getK_le fun w18 g18 => ?_
    rw [EF_get (by decide)] at g18
    refine intK_le fun n781 z849 => ?_
    subst z849
    exact LeO.refl _
  · rintro n e h ⟨f, rfl⟩
    unfold F48.P14
    refine getK_le fun w0 g0 => ?_
    rw [EF_get (by decide)] at g0
    refine sliceK_le fun a772 l772 c772 z850 => ?_
    subst z850
    refine getK_le fun w1 g1 => ?_
    rw [EF_get (by decide)] at g1
    refine intK_le fun n773 z851 => ?_
    subst z851
    refine getK_le fun w2 g2 => ?_
    rw [EF_get (by decide)] at g2
    refine intK_le fun n774 z852 => ?_
    subst z852
    refine getK_le fun w3 g3 => ?_
    rw [EF_get (by decide)] at g3
    refine intK_le fun n775 z853 => ?_
    subst z853
    refine getK_le fun w4 g4 => ?_
    rw [EF_get (by decide)] at g4
    refine intK_le fun n776 z854 => ?_
    subst z854
    refine getK_le fun w5 g5 => ?_
    rw [EF_get (by decide)] at g5
    refine intK_le fun n777 z855 => ?_
    subst z855
    refine getK_le fun w15 g15 => ?_
    rw [EF_get (by decide)] at g15
    refine intK_le fun n778 z856 => ?_
    subst z856
    refine getK_le fun w16 g16 => ?_
    rw [EF_get (by decide)] at g16
    refine sliceK_le fun a779 l779 c779 z857 => ?_
    subst z857
    refine getK_le fun w17 g17 => ?_
    rw [EF_get (by decide)] at g17
    refine intK_le fun n780 z858 => ?_
    subst z858
    refine getK_le fun w18 g18 => ?_
    rw [EF_get (by decide)] at g18
    refine intK_le fun n781 z859 => ?_
    subst z859
    have hr := F48.R14 call lf ro kb11 n f a772 l772 c772 n773 n774 n775 n776 n777 n778 a779 l779 c779 n780 n781 h
    rw [updF_same g0, updF_same g1, updF_same g2, updF_same g3, updF_same g4, updF_same g5, updF_same g15, updF_same g16, updF_same g17, updF_same g18] at hr
    exact round_le (H := (F48.H14 call lf ro kb11 (F48.L14 call lf ro kb11 n))) (J := (F48.U14 call lf ro kb11 (F48.L14 call lf ro kb11 n))) ⟨(hd_free rfl), (fun e h hs => F48.BJ16 call lf ro kb11 (F48.L14 call lf ro kb11 n) e h hs)⟩ hr

theorem F48.RJ13 (call : CT) (lf ro : Nat) (kb11 : (Option Addr) → Nat → Nat → Int → Int → Int → Int → Int → Int → (Option Addr) → Nat → Nat → Int → Heap → Out) (f : Nat → Option Value) (a50 : Option Addr) (l50 : Nat) (c50 : Nat) (n51 : Int) (n52 : Int) (n53 : Int) (n54 : Int) (n55 : Int) (n56 : Int) (a57 : Option Addr) (l57 : Nat) (c57 : Nat) (n58 : Int) (h59 : Heap) :
    execH Tryd.prog call ro (F48.H11 call lf ro kb11) (F48.U11 call lf ro kb11) (sub (codeOf Tryd.f48) [true, true, true, true, true, true, true, false, true, false, false, true]) (EF 104 (updF (updF (updF (updF (updF (updF (updF (updF (updF f 0 (some (.slice a50 l50 c50))) 1 (some (.int .i64 n51))) 2 (some (.int .i64 n52))) 3 (some (.int .i64 n53))) 4 (some (.int .i64 n54))) 5 (some (.int .i64 n55))) 15 (some (.int .i64 n56))) 16 (some (.slice a57 l57 c57))) 17 (some (.int .i64 n58)))) h59 (F48.CJ13 call lf ro kb11) = F48.J13 call lf ro kb11 a50 l50 c50 n51 n52 n53 n54 n55 n56 a57 l57 c57 n58 h59 := by kernel_rfl

theorem F48.CKJ13 (call : CT) (lf ro : Nat) (kb11 : (Option Addr) → Nat → Nat → Int → Int → Int → Int → Int → Int → (Option Addr) → Nat → Nat → Int → Heap → Out) : KLe 104 (F48.CJ13 call lf ro kb11) (F48.KJ13 call lf ro kb11) :=
  (KLe.refl _)

theorem F48.BJ13 (call : CT) (lf ro : Nat) (kb11 : (Option Addr) → Nat → Nat → Int → Int → Int → Int → Int → Int → (Option Addr) → Nat → Nat → Int → Heap → Out) : ∀ e h, Shaped 104 e → LeO (F48.PJ13 (F48.J13 call lf ro kb11) e h) (execK Tryd.prog call lf ro (sub (codeOf Tryd.f48) [true, true, true, true, true, true, true, false, true, false, false, true]) e h (F48.KJ13 call lf ro kb11)) := by
    rintro e h ⟨f, rfl⟩
    unfold F48.PJ13
    refine getK_le fun w0 g0 => ?_
    rw [EF_get (by decide)] at g0
    refine sliceK_le fun a782 l782 c782 z860 => ?_
    subst z860
    refine getK_le fun w1 g1 => ?_
    rw [EF_get (by decide)] at g1
    refine intK_le fun n783 z861 => ?_
    subst z861
    refine getK_le fun w2 g2 => ?_
    rw [EF_get (by decide)] at g2
    refine intK_le fun n784 z862 => ?_
    subst z862
    refine getK_le fun w3 g3 => ?_
    rw [EF_get (by decide)] at g3
    refine intK_le fun n785 z863 => ?_
    subst z863
    refine getK_le fun w4 g4 => ?_
    rw [EF_get (by decide)] at g4
    refine intK_le fun n786 z864 => ?_
    subst z864
    refine getK_le fun w5 g5 => ?_
    rw [EF_get (by decide)] at g5
    refine intK_le fun n787 z865 => ?_
    subst z865
    refine getK_le fun w15 g15 => ?_
    rw [EF_get (by decide)] at g15
    refine intK_le fun n788 z866 => ?_
    subst z866
    refine getK_le fun w16 g16 => ?_
    rw [EF_get (by decide)] at g16
    refine sliceK_le fun a789 l789 c789 z867 => ?_
    subst z867
    refine getK_le fun w17 g17 => ?_
    rw [EF_get (by decide)] at g17
    refine intK_le fun n790 z868 => ?_
    subst z868
    have hr := F48.RJ13 call lf ro kb11 f a782 l782 c782 n783 n784 n785 n786 n787 n788 a789 l789 c789 n790 h
    rw [updF_same g0, updF_same g1, updF_same g2, updF_same g3, updF_same g4, updF_same g5, updF_same g15, updF_same g16, updF_same g17] at hr
    exact cut_le (H := (F48.H11 call lf ro kb11)) (J := (F48.U11 call lf ro kb11)) (F48.CKJ13 call lf ro kb11) ⟨⟨(hd_free rfl), (fun e h hs => F48.B14 call lf ro kb11 lf e h hs)⟩, (hd_free rfl)⟩ hr

theorem F48.R11 (call : CT) (lf ro : Nat) (n : Nat) (f : Nat → Option Value) (a40 : Option Addr) (l40 : Nat) (c40 : Nat) (n41 : Int) (n42 : Int) (n43 : Int) (n44 : Int) (n45 : Int) (n46 : Int) (a47 : Option Addr) (l47 : Nat) (c47 : Nat) (n48 : Int) (h49 : Heap) :
    execH Tryd.prog call ro (F48.H11 call lf ro (F48.L11 call lf ro n)) (F48.U11 call lf ro (F48.L11 call lf ro n)) (sub (codeOf Tryd.f48) [true, true, true, true, true, true, true, false, true, false, false]) (EF 104 (updF (updF (updF (updF (updF (updF (updF (updF (updF f 0 (some (.slice a40 l40 c40))) 1 (some (.int .i64 n41))) 2 (some (.int .i64 n42))) 3 (some (.int .i64 n43))) 4 (some (.int .i64 n44))) 5 (some (.int .i64 n45))) 15 (some (.int .i64 n46))) 16 (some (.slice a47 l47 c47))) 17 (some (.int .i64 n48)))) h49 (outK (F48.P11 (F48.L11 call lf ro n)) (fun i e h => F48.C11 call lf ro (.exit i e h)) (fun e h => F48.C11 call lf ro (.ret e h))) = F48.L11 call lf ro (n + 1) a40 l40 c40 n41 n42 n43 n44 n45 n46 a47 l47 c47 n48 h49 := by kernel_rfl

theorem F48.CK11 (call : CT) (lf ro : Nat) : KLe 104 (F48.C11 call lf ro) (F48.K11 call lf ro) :=
  (KLe.block (KLe.seq (H := (F48.Ht call lf ro)) (J := (F48.Ut call lf ro)) (KLe.refl _) (hd_free rfl)))

theorem F48.B11 (call : CT) (lf ro : Nat) : ∀ n e h, Shaped 104 e → LeO (F48.P11 (F48.L11 call lf ro n) e h) (loopK (execK Tryd.prog call lf ro (sub (codeOf Tryd.f48) [true, true, true, true, true, true, true, false, true, false, false])) n e h (F48.K11 call lf ro)) := by
  refine loop_le (fun e h k k' hs hk => execK_mono _ e h k k' hs hk) (kb := fun n => F48.P11 (F48.L11 call lf ro n)) (kx := fun i e h => F48.C11 call lf ro (.exit i e h)) (kr := fun e h => F48.C11 call lf ro (.ret e h)) ?_ ?_ (fun i e h hs => (F48.CK11 call lf ro).exit i e h hs) (fun e h hs => (F48.CK11 call lf ro).ret e h hs)
  · rintro e h ⟨f, rfl⟩
    unfold F48.P11
    refine getK_le fun w0 g0 => ?_
    rw [EF_get (by decide)] at g0
    refine sliceK_le fun a791 l791 c791 z878 => ?_
    subst z878
    refine getK_le fun w1 g1 => ?_
    rw [EF_get (by decide)] at g1
    refine intK_le fun n792 z879 => ?_
    subst z879
    refine getK_le fun w2 g2 => ?_
    rw [EF_get (by decide)] at g2
    refine intK_le fun n793 z880 => ?_
    subst z880
    refine getK_le fun w3 g3 => ?_
    rw [EF_get (by decide)] at g3
    refine intK_le fun n794 z881 => ?_
    subst z881
    refine getK_le fun w4 g4 => ?_
    rw [EF_get (by decide)] at g4
    refine intK_le fun n795 z882 => ?_
    subst z882
    refine getK_le fun w5 g5 => ?_
    rw [EF_get (by decide)] at g5
    refine intK_le fun n796 z883 => ?_
    subst z883
    refine getK_le fun w15 g15 => ?_
    rw [EF_get (by decide)] at g15
    refine intK_le fun n797 z884 => ?_
    subst z884
    refine getK_le fun w16 g16 => ?_
    rw [EF_get (by decide)] at g16
    refine sliceK_le fun a798 l798 c798 z885 => ?_
    subst z885
    refine getK_le fun w17 g17 => ?_
    rw [EF_get (by decide)] at g17
    refine intK_le fun n799 z886 => ?_
    subst z886
    exact LeO.refl _
  · rintro n e h ⟨f, rfl⟩
    unfold F48.P11
    refine getK_le fun w0 g0 => ?_
    rw [EF_get (by decide)] at g0
    refine sliceK_le fun a791 l791 c791 z887 => ?_
    subst z887
    refine getK_le fun w1 g1 => ?_
    rw [EF_get (by decide)] at g1
    refine intK_le fun n792 z888 => ?_
    subst z888
    refine getK_le fun w2 g2 => ?_
    rw [EF_get (by decide)] at g2
    refine intK_le fun n793 z889 => ?_
    subst z889
    refine getK_le fun w3 g3 => ?_
    rw [EF_get (by decide)] at g3
    refine intK_le fun n794 z890 => ?_
    subst z890
    refine getK_le fun w4 g4 => ?_
    rw [EF_get (by decide)] at g4
    refine intK_le fun n795 z891 => ?_
    subst z891
    refine getK_le fun w5 g5 => ?_
    rw [EF_get (by decide)] at g5
    refine intK_le fun n796 z892 => ?_
    subst z892
    refine getK_le fun w15 g15 => ?_
    rw [EF_get (by decide)] at g15
    refine intK_le fun n797 z893 => ?_
    subst z893
    refine getK_le fun w16 g16 => ?_
    rw [EF_get (by decide)] at g16
    refine sliceK_le fun a798 l798 c798 z894 => ?_
    subst z894
    refine getK_le fun w17 g17 => ?_
    rw [EF_get (by decide)] at g17
    refine intK_le fun n799 z895 => ?_
    subst z895
    have hr := F48.R11 call lf ro n f a791 l791 c791 n792 n793 n794 n795 n796 n797 a798 l798 c798 n799 h
    rw [updF_same g0, updF_same g1, updF_same g2, updF_same g3, updF_same g4, updF_same g5, updF_same g15, updF_same g16, updF_same g17] at hr
    exact round_le (H := (F48.H11 call lf ro (F48.L11 call lf ro n))) (J := (F48.U11 call lf ro (F48.L11 call lf ro n))) ⟨(hd_free rfl), (fun e h hs => F48.BJ13 call lf ro (F48.L11 call lf ro n) e h hs)⟩ hr

theorem F48.RJ9 (call : CT) (lf ro : Nat) (f : Nat → Option Value) (a32 : Option Addr) (l32 : Nat) (c32 : Nat) (n33 : Int) (n34 : Int) (n35 : Int) (n36 : Int) (n37 : Int) (n38 : Int) (h39 : Heap) :
    execH Tryd.prog call ro (F48.Ht call lf ro) (F48.Ut call lf ro) (sub (codeOf Tryd.f48) [true, true, true, true, true, true]) (EF 104 (updF (updF (updF (updF (updF (updF (updF f 0 (some (.slice a32 l32 c32))) 1 (some (.int .i64 n33))) 2 (some (.int .i64 n34))) 3 (some (.int .i64 n35))) 4 (some (.int .i64 n36))) 5 (some (.int .i64 n37))) 15 (some (.int .i64 n38)))) h39 (F48.CJ9 call lf ro) = F48.J9 call lf ro a32 l32 c32 n33 n34 n35 n36 n37 n38 h39 := by kernel_rfl

theorem F48.CKJ9 (call : CT) (lf ro : Nat) : KLe 104 (F48.CJ9 call lf ro) (F48.KJ9 call lf ro) :=
  (KLe.refl _)

theorem F48.BJ9 (call : CT) (lf ro : Nat) : ∀ e h, Shaped 104 e → LeO (F48.PJ9 (F48.J9 call lf ro) e h) (execK Tryd.prog call lf ro (sub (codeOf Tryd.f48) [true, true, true, true, true, true]) e h (F48.KJ9 call lf ro)) := by
    rintro e h ⟨f, rfl⟩
    unfold F48.PJ9
    refine getK_le fun w0 g0 => ?_
    rw [EF_get (by decide)] at g0
    refine sliceK_le fun a800 l800 c800 z896 => ?_
    subst z896
    refine getK_le fun w1 g1 => ?_
    rw [EF_get (by decide)] at g1
    refine intK_le fun n801 z897 => ?_
    subst z897
    refine getK_le fun w2 g2 => ?_
    rw [EF_get (by decide)] at g2
    refine intK_le fun n802 z898 => ?_
    subst z898
    refine getK_le fun w3 g3 => ?_
    rw [EF_get (by decide)] at g3
    refine intK_le fun n803 z899 => ?_
    subst z899
    refine getK_le fun w4 g4 => ?_
    rw [EF_get (by decide)] at g4
    refine intK_le fun n804 z900 => ?_
    subst z900
    refine getK_le fun w5 g5 => ?_
    rw [EF_get (by decide)] at g5
    refine intK_le fun n805 z901 => ?_
    subst z901
    refine getK_le fun w15 g15 => ?_
    rw [EF_get (by decide)] at g15
    refine intK_le fun n806 z902 => ?_
    subst z902
    have hr := F48.RJ9 call lf ro f a800 l800 c800 n801 n802 n803 n804 n805 n806 h
    rw [updF_same g0, updF_same g1, updF_same g2, updF_same g3, updF_same g4, updF_same g5, updF_same g15] at hr
    exact cut_le (H := (F48.Ht call lf ro)) (J := (F48.Ut call lf ro)) (F48.CKJ9 call lf ro) ⟨(hd_free rfl), ⟨⟨(hd_free rfl), (fun e h hs => F48.B11 call lf ro  lf e h hs)⟩, (hd_free rfl)⟩⟩ hr

theorem F48.RJ7 (call : CT) (lf ro : Nat) (f : Nat → Option Value) (a24 : Option Addr) (l24 : Nat) (c24 : Nat) (n25 : Int) (n26 : Int) (n27 : Int) (n28 : Int) (n29 : Int) (n30 : Int) (h31 : Heap) :
    execH Tryd.prog call ro (F48.Ht call lf ro) (F48.Ut call lf ro) (sub (codeOf Tryd.f48) [true, true, true, true, true]) (EF 104 (updF (updF (updF (updF (updF (updF (updF f 0 (some (.slice a24 l24 c24))) 1 (some (.int .i64 n25))) 2 (some (.int .i64 n26))) 3 (some (.int .i64 n27))) 4 (some (.int .i64 n28))) 5 (some (.int .i64 n29))) 15 (some (.int .i64 n30)))) h31 (F48.CJ7 call lf ro) = F48.J7 call lf ro a24 l24 c24 n25 n26 n27 n28 n29 n30 h31 := by kernel_rfl

theorem F48.CKJ7 (call : CT) (lf ro : Nat) : KLe 104 (F48.CJ7 call lf ro) (F48.KJ7 call lf ro) :=
  (KLe.refl _)

theorem F48.BJ7 (call : CT) (lf ro : Nat) : ∀ e h, Shaped 104 e → LeO (F48.PJ7 (F48.J7 call lf ro) e h) (execK Tryd.prog call lf ro (sub (codeOf Tryd.f48) [true, true, true, true, true]) e h (F48.KJ7 call lf ro)) := by
    rintro e h ⟨f, rfl⟩
    unfold F48.PJ7
    refine getK_le fun w0 g0 => ?_
    rw [EF_get (by decide)] at g0
    refine sliceK_le fun a807 l807 c807 z910 => ?_
    subst z910
    refine getK_le fun w1 g1 => ?_
    rw [EF_get (by decide)] at g1
    refine intK_le fun n808 z911 => ?_
    subst z911
    refine getK_le fun w2 g2 => ?_
    rw [EF_get (by decide)] at g2
    refine intK_le fun n809 z912 => ?_
    subst z912
    refine getK_le fun w3 g3 => ?_
    rw [EF_get (by decide)] at g3
    refine intK_le fun n810 z913 => ?_
    subst z913
    refine getK_le fun w4 g4 => ?_
    rw [EF_get (by decide)] at g4
    refine intK_le fun n811 z914 => ?_
    subst z914
    refine getK_le fun w5 g5 => ?_
    rw [EF_get (by decide)] at g5
    refine intK_le fun n812 z915 => ?_
    subst z915
    refine getK_le fun w15 g15 => ?_
    rw [EF_get (by decide)] at g15
    refine intK_le fun n813 z916 => ?_
    subst z916
    have hr := F48.RJ7 call lf ro f a807 l807 c807 n808 n809 n810 n811 n812 n813 h
    rw [updF_same g0, updF_same g1, updF_same g2, updF_same g3, updF_same g4, updF_same g5, updF_same g15] at hr
    exact cut_le (H := (F48.Ht call lf ro)) (J := (F48.Ut call lf ro)) (F48.CKJ7 call lf ro) ⟨(hd_free rfl), (fun e h hs => F48.BJ9 call lf ro  e h hs)⟩ hr

theorem F48.RJ3 (call : CT) (lf ro : Nat) (f : Nat → Option Value) (a17 : Option Addr) (l17 : Nat) (c17 : Nat) (n18 : Int) (n19 : Int) (n20 : Int) (n21 : Int) (n22 : Int) (h23 : Heap) :
    execH Tryd.prog call ro (F48.Ht call lf ro) (F48.Ut call lf ro) (sub (codeOf Tryd.f48) [true, true]) (EF 104 (updF (updF (updF (updF (updF (updF f 0 (some (.slice a17 l17 c17))) 1 (some (.int .i64 n18))) 2 (some (.int .i64 n19))) 3 (some (.int .i64 n20))) 4 (some (.int .i64 n21))) 5 (some (.int .i64 n22)))) h23 (F48.CJ3 call lf ro) = F48.J3 call lf ro a17 l17 c17 n18 n19 n20 n21 n22 h23 := by kernel_rfl

theorem F48.CKJ3 (call : CT) (lf ro : Nat) : KLe 104 (F48.CJ3 call lf ro) (F48.KJ3 call lf ro) :=
  (KLe.refl _)

theorem F48.BJ3 (call : CT) (lf ro : Nat) : ∀ e h, Shaped 104 e → LeO (F48.PJ3 (F48.J3 call lf ro) e h) (execK Tryd.prog call lf ro (sub (codeOf Tryd.f48) [true, true]) e h (F48.KJ3 call lf ro)) := by
    rintro e h ⟨f, rfl⟩
    unfold F48.PJ3
    refine getK_le fun w0 g0 => ?_
    rw [EF_get (by decide)] at g0
    refine sliceK_le fun a814 l814 c814 z924 => ?_
    subst z924
    refine getK_le fun w1 g1 => ?_
    rw [EF_get (by decide)] at g1
    refine intK_le fun n815 z925 => ?_
    subst z925
    refine getK_le fun w2 g2 => ?_
    rw [EF_get (by decide)] at g2
    refine intK_le fun n816 z926 => ?_
    subst z926
    refine getK_le fun w3 g3 => ?_
    rw [EF_get (by decide)] at g3
    refine intK_le fun n817 z927 => ?_
    subst z927
    refine getK_le fun w4 g4 => ?_
    rw [EF_get (by decide)] at g4
    refine intK_le fun n818 z928 => ?_
    subst z928
    refine getK_le fun w5 g5 => ?_
    rw [EF_get (by decide)] at g5
    refine intK_le fun n819 z929 => ?_
    subst z929
    have hr := F48.RJ3 call lf ro f a814 l814 c814 n815 n816 n817 n818 n819 h
    rw [updF_same g0, updF_same g1, updF_same g2, updF_same g3, updF_same g4, updF_same g5] at hr
    exact cut_le (H := (F48.Ht call lf ro)) (J := (F48.Ut call lf ro)) (F48.CKJ3 call lf ro) ⟨(hd_free rfl), ⟨(hd_free rfl), ⟨(hd_free rfl), (fun e h hs => F48.BJ7 call lf ro  e h hs)⟩⟩⟩ hr

theorem F48.le (call : CT) (lf ro : Nat) (ax0 : Option Addr) (lx0 : Nat) (cx0 : Nat) (x1 : Int) (x2 : Int) (x3 : Int) (x4 : Int) (x5 : Int) (h : Heap) : LeO (F48.t call lf ro ax0 lx0 cx0 x1 x2 x3 x4 x5 h) (bodyK Tryd.prog call lf ro Tryd.f48 [.slice ax0 lx0 cx0, .int .i64 x1, .int .i64 x2, .int .i64 x3, .int .i64 x4, .int .i64 x5] h) :=
  body_le (c := codeOf Tryd.f48) (H := F48.Ht call lf ro) (J := F48.Ut call lf ro) rfl (Nat.le_of_ble_eq_true rfl) ⟨(hd_free rfl), ⟨(hd_free rfl), (fun e h hs => F48.BJ3 call lf ro  e h hs)⟩⟩ (by kernel_rfl)

/-! ### barscan/barscanref32.Read: function 37 -/

noncomputable def F37.J15 (call : CT) (lf ro : Nat) (p103 : Nat) (o103 : Nat) (n104 : Int) (n105 : Int) (n106 : Int) (n107 : Int) (n108 : Int) (a109 : Option Addr) (l109 : Nat) (c109 : Nat) (h110 : Heap) : Out :=
  ifK (n108 != 0) (bindO (storeO Tryd.prog ro 24 (.pointer (some ⟨p103, o103, none⟩)) (.agg #[.int .i64 0, .int .i64 0, .slice none 0 0]) h110) fun v117 h118 =>
  resOf Tryd.prog Tryd.f37 (EF 100 (updF (updF (updF (updF (fun _ => none) 2 (some (.pointer (some ⟨p103, o103, none⟩)))) 3 (some (.int .i64 0))) 4 (some (.int .i64 0))) 5 (some (.int .i64 n108)))) h118) (bindO (storeO Tryd.prog ro 24 (.pointer (some ⟨p103, o103, none⟩)) (.agg #[.int .i64 n105, .int .i64 n106, .slice a109 l109 c109]) h110) fun v121 h122 =>
  resOf Tryd.prog Tryd.f37 (EF 100 (updF (updF (updF (updF (fun _ => none) 2 (some (.pointer (some ⟨p103, o103, none⟩)))) 3 (some (.int .i64 n104))) 4 (some (.int .i64 n107))) 5 (some (.int .i64 0)))) h122)

noncomputable def F37.PJ15 (kb : Nat → Nat → Int → Int → Int → Int → Int → (Option Addr) → Nat → Nat → Heap → Out) (e : Env) (h : Heap) : Out :=
  getK (e.get 2) fun w2 =>
  ptrK w2 fun p123 o123 =>
  getK (e.get 6) fun w6 =>
  intK .i64 w6 fun n124 =>
  getK (e.get 7) fun w7 =>
  intK .i64 w7 fun n125 =>
  getK (e.get 8) fun w8 =>
  intK .i64 w8 fun n126 =>
  getK (e.get 10) fun w10 =>
  intK .i64 w10 fun n127 =>
  getK (e.get 11) fun w11 =>
  intK .i64 w11 fun n128 =>
  getK (e.get 12) fun w12 =>
  sliceK w12 fun a129 l129 c129 =>
  kb p123 o123 n124 n125 n126 n127 n128 a129 l129 c129 h

noncomputable def F37.J9 (call : CT) (lf ro : Nat) (a83 : Option Addr) (l83 : Nat) (c83 : Nat) (p84 : Nat) (o84 : Nat) (n85 : Int) (n86 : Int) (n87 : Int) (n88 : Int) (n89 : Int) (h90 : Heap) : Out :=
  ifK (n85 == 1) (bindO (call ro 46 [.slice a83 l83 c83, .int .i64 n89, .int .i64 (IntKind.i64.wrap (n86 * n87))] h90) fun v91 h92 =>
  tupK v91 fun q93 =>
  consK q93 fun x94 q95 =>
  sliceK x94 fun a96 l96 c96 =>
  consK q95 fun x97 q98 =>
  intK .i64 x97 fun n99 =>
  consK q98 fun x100 q101 =>
  intK .i64 x100 fun n102 =>
  nilK q101 <|
  F37.J15 call lf ro p84 o84 n85 n86 n87 n99 n102 a96 l96 c96 h92) (ifK (n85 == 2) (bindO (call ro 47 [.slice a83 l83 c83, .int .i64 n89, .int .i64 (IntKind.i64.wrap (n86 * n87)), .int .i64 n88] h90) fun v130 h131 =>
  tupK v130 fun q132 =>
  consK q132 fun x133 q134 =>
  sliceK x133 fun a135 l135 c135 =>
  consK q134 fun x136 q137 =>
  intK .i64 x136 fun n138 =>
  consK q137 fun x139 q140 =>
  intK .i64 x139 fun n141 =>
  nilK q140 <|
  F37.J15 call lf ro p84 o84 n85 n86 n87 n138 n141 a135 l135 c135 h131) (bindO (call ro 48 [.slice a83 l83 c83, .int .i64 n89, .int .i64 n86, .int .i64 n87, .int .i64 n88, .int .i64 n85] h90) fun v142 h143 =>
  tupK v142 fun q144 =>
  consK q144 fun x145 q146 =>
  sliceK x145 fun a147 l147 c147 =>
  consK q146 fun x148 q149 =>
  intK .i64 x148 fun n150 =>
  consK q149 fun x151 q152 =>
  intK .i64 x151 fun n153 =>
  nilK q152 <|
  F37.J15 call lf ro p84 o84 n85 n86 n87 n150 n153 a147 l147 c147 h143))

noncomputable def F37.PJ9 (kb : (Option Addr) → Nat → Nat → Nat → Nat → Int → Int → Int → Int → Int → Heap → Out) (e : Env) (h : Heap) : Out :=
  getK (e.get 0) fun w0 =>
  sliceK w0 fun a154 l154 c154 =>
  getK (e.get 2) fun w2 =>
  ptrK w2 fun p155 o155 =>
  getK (e.get 6) fun w6 =>
  intK .i64 w6 fun n156 =>
  getK (e.get 7) fun w7 =>
  intK .i64 w7 fun n157 =>
  getK (e.get 8) fun w8 =>
  intK .i64 w8 fun n158 =>
  getK (e.get 9) fun w9 =>
  intK .i64 w9 fun n159 =>
  getK (e.get 10) fun w10 =>
  intK .i64 w10 fun n160 =>
  kb a154 l154 c154 p155 o155 n156 n157 n158 n159 n160 h

noncomputable def F37.J5 (call : CT) (lf ro : Nat) (a30 : Option Addr) (l30 : Nat) (c30 : Nat) (p31 : Nat) (o31 : Nat) (h32 : Heap) : Out :=
  bindO (idxO Tryd.prog 22 (.slice a30 l30 c30) (.int .i64 1) h32) fun v38 h39 =>
  bindO (loadO Tryd.prog 5 v38 h39) fun v40 h41 =>
  intK .u8 v40 fun n42 =>
  bindO (call ro 45 [.slice a30 l30 c30, .int .i64 (IntKind.i64.wrap ((IntKind.i64.wrap n42) - 48))] h41) fun v61 h62 =>
  tupK v61 fun q63 =>
  consK q63 fun x64 q65 =>
  intK .i64 x64 fun n66 =>
  consK q65 fun x67 q68 =>
  intK .i64 x67 fun n69 =>
  consK q68 fun x70 q71 =>
  intK .i64 x70 fun n72 =>
  consK q71 fun x73 q74 =>
  intK .i64 x73 fun n75 =>
  consK q74 fun x76 q77 =>
  intK .i64 x76 fun n78 =>
  nilK q77 <|
  ifK (n78 != 0) (bindO (storeO Tryd.prog ro 24 (.pointer (some ⟨p31, o31, none⟩)) (.agg #[.int .i64 0, .int .i64 0, .slice none 0 0]) h62) fun v81 h82 =>
  resOf Tryd.prog Tryd.f37 (EF 100 (updF (updF (updF (updF (fun _ => none) 2 (some (.pointer (some ⟨p31, o31, none⟩)))) 3 (some (.int .i64 0))) 4 (some (.int .i64 0))) 5 (some (.int .i64 n78)))) h82) (F37.J9 call lf ro a30 l30 c30 p31 o31 (IntKind.i64.wrap ((IntKind.i64.wrap n42) - 48)) n66 n69 n72 n75 h62)

noncomputable def F37.PJ5 (kb : (Option Addr) → Nat → Nat → Nat → Nat → Heap → Out) (e : Env) (h : Heap) : Out :=
  getK (e.get 0) fun w0 =>
  sliceK w0 fun a161 l161 c161 =>
  getK (e.get 2) fun w2 =>
  ptrK w2 fun p162 o162 =>
  kb a161 l161 c161 p162 o162 h

noncomputable def F37.J3 (call : CT) (lf ro : Nat) (a7 : Option Addr) (l7 : Nat) (c7 : Nat) (p8 : Nat) (o8 : Nat) (h9 : Heap) : Out :=
  letJ (fun (b23 : Bool) (h24 : Heap) =>
  (ifK b23 (bindO (storeO Tryd.prog ro 24 (.pointer (some ⟨p8, o8, none⟩)) (.agg #[.int .i64 0, .int .i64 0, .slice none 0 0]) h24) fun v28 h29 =>
  resOf Tryd.prog Tryd.f37 (EF 100 (updF (updF (updF (updF (fun _ => none) 2 (some (.pointer (some ⟨p8, o8, none⟩)))) 3 (some (.int .i64 0))) 4 (some (.int .i64 0))) 5 (some (.int .i64 25)))) h29) (F37.J5 call lf ro a7 l7 c7 p8 o8 h24))) fun j25 =>
  ifK (decide ((l7 : Int) < 2)) (j25 true h9) (bindO (idxO Tryd.prog 22 (.slice a7 l7 c7) (.int .i64 0) h9) fun v163 h164 =>
  bindO (loadO Tryd.prog 5 v163 h164) fun v165 h166 =>
  intK .u8 v165 fun n167 =>
  ifK (n167 != 80) (j25 true h166) (bindO (idxO Tryd.prog 22 (.slice a7 l7 c7) (.int .i64 1) h166) fun v168 h169 =>
  bindO (loadO Tryd.prog 5 v168 h169) fun v170 h171 =>
  intK .u8 v170 fun n172 =>
  bindO (call ro 29 [.int .i64 (IntKind.i64.wrap ((IntKind.i64.wrap n172) - 48))] h171) fun v173 h174 =>
  boolK v173 fun b175 =>
  j25 (!b175) h174))

noncomputable def F37.PJ3 (kb : (Option Addr) → Nat → Nat → Nat → Nat → Heap → Out) (e : Env) (h : Heap) : Out :=
  getK (e.get 0) fun w0 =>
  sliceK w0 fun a176 l176 c176 =>
  getK (e.get 2) fun w2 =>
  ptrK w2 fun p177 o177 =>
  kb a176 l176 c176 p177 o177 h

noncomputable def F37.t (call : CT) (lf ro : Nat) (ax0 : Option Addr) (lx0 : Nat) (cx0 : Nat) (h : Heap) : Out :=
  pushJ h 1 [.int .i64 0, .int .i64 0, .slice none 0 0] fun h2 =>
  ifK (decide ((lx0 : Int) > 4194304)) (bindO (storeO Tryd.prog ro 24 (.pointer (some ⟨h.next, 0, none⟩)) (.agg #[.int .i64 0, .int .i64 0, .slice none 0 0]) h2) fun v5 h6 =>
  resOf Tryd.prog Tryd.f37 (EF 100 (updF (updF (updF (updF (fun _ => none) 2 (some (.pointer (some ⟨h.next, 0, none⟩)))) 3 (some (.int .i64 0))) 4 (some (.int .i64 0))) 5 (some (.int .i64 4)))) h6) (F37.J3 call lf ro ax0 lx0 cx0 h.next 0 h2)

noncomputable def F37.Ht (call : CT) (lf ro : Nat) (i : Nat) (e : Env) (h : Heap) : Out := .fail
noncomputable def F37.Ut (call : CT) (lf ro : Nat) (i : Nat) : Option (Env → Heap → Out) := ifJ (i == 15) (some (F37.PJ15 (F37.J15 call lf ro))) (ifJ (i == 9) (some (F37.PJ9 (F37.J9 call lf ro))) (ifJ (i == 5) (some (F37.PJ5 (F37.J5 call lf ro))) (ifJ (i == 3) (some (F37.PJ3 (F37.J3 call lf ro))) (none))))

noncomputable def F37.CJ15 (call : CT) (lf ro : Nat) : COut → Out := endK Tryd.prog Tryd.f37

noncomputable def F37.KJ15 (call : CT) (lf ro : Nat) : COut → Out := endK Tryd.prog Tryd.f37

noncomputable def F37.CJ9 (call : CT) (lf ro : Nat) : COut → Out := endK Tryd.prog Tryd.f37

noncomputable def F37.KJ9 (call : CT) (lf ro : Nat) : COut → Out := endK Tryd.prog Tryd.f37

noncomputable def F37.CJ5 (call : CT) (lf ro : Nat) : COut → Out := endK Tryd.prog Tryd.f37

noncomputable def F37.KJ5 (call : CT) (lf ro : Nat) : COut → Out := endK Tryd.prog Tryd.f37

noncomputable def F37.CJ3 (call : CT) (lf ro : Nat) : COut → Out := endK Tryd.prog Tryd.f37

noncomputable def F37.KJ3 (call : CT) (lf ro : Nat) : COut → Out := endK Tryd.prog Tryd.f37

theorem F37.RJ15 (call : CT) (lf ro : Nat) (f : Nat → Option Value) (p103 : Nat) (o103 : Nat) (n104 : Int) (n105 : Int) (n106 : Int) (n107 : Int) (n108 : Int) (a109 : Option Addr) (l109 : Nat) (c109 : Nat) (h110 : Heap) :
    execH Tryd.prog call ro (F37.Ht call lf ro) (F37.Ut call lf ro) (sub (codeOf Tryd.f37) [true, true, true, true, true, true, true, true]) (EF 100 (updF (updF (updF (updF (updF (updF (updF f 2 (some (.pointer (some ⟨p103, o103, none⟩)))) 6 (some (.int .i64 n104))) 7 (some (.int .i64 n105))) 8 (some (.int .i64 n106))) 10 (some (.int .i64 n107))) 11 (some (.int .i64 n108))) 12 (some (.slice a109 l109 c109)))) h110 (F37.CJ15 call lf ro) = F37.J15 call lf ro p103 o103 n104 n105 n106 n107 n108 a109 l109 c109 h110 := by kernel_rfl

theorem F37.CKJ15 (call : CT) (lf ro : Nat) : KLe 100 (F37.CJ15 call lf ro) (F37.KJ15 call lf ro) :=
  (KLe.refl _)

theorem F37.BJ15 (call : CT) (lf ro : Nat) : ∀ e h, Shaped 100 e → LeO (F37.PJ15 (F37.J15 call lf ro) e h) (execK Tryd.prog call lf ro (sub (codeOf Tryd.f37) [true, true, true, true, true, true, true, true]) e h (F37.KJ15 call lf ro)) := by
    rintro e h ⟨f, rfl⟩
    unfold F37.PJ15
    refine getK_le fun w2 g2 => ?_
    rw [EF_get (by decide)] at g2
    refine ptrK_le fun p123 o123 z178 => ?_
    subst z178
    refine getK_le fun w6 g6 => ?_
    rw [EF_get (by decide)] at g6
    refine intK_le fun n124 z179 => ?_
    subst z179
    refine getK_le fun w7 g7 => ?_
    rw [EF_get (by decide)] at g7
    refine intK_le fun n125 z180 => ?_
    subst z180
    refine getK_le fun w8 g8 => ?_
    rw [EF_get (by decide)] at g8
    refine intK_le fun n126 z181 => ?_
    subst z181
    refine getK_le fun w10 g10 => ?_
    rw [EF_get (by decide)] at g10
    refine intK_le fun n127 z182 => ?_
    subst z182
    refine getK_le fun w11 g11 => ?_
    rw [EF_get (by decide)] at g11
    refine intK_le fun n128 z183 => ?_
    subst z183
    refine getK_le fun w12 g12 => ?_
    rw [EF_get (by decide)] at g12
    refine sliceK_le fun a129 l129 c129 z184 => ?_
    subst z184
    have hr := F37.RJ15 call lf ro f p123 o123 n124 n125 n126 n127 n128 a129 l129 c129 h
    rw [updF_same g2, updF_same g6, updF_same g7, updF_same g8, updF_same g10, updF_same g11, updF_same g12] at hr
    exact cut_le (H := (F37.Ht call lf ro)) (J := (F37.Ut call lf ro)) (F37.CKJ15 call lf ro) (hd_free rfl) hr

theorem F37.RJ9 (call : CT) (lf ro : Nat) (f : Nat → Option Value) (a83 : Option Addr) (l83 : Nat) (c83 : Nat) (p84 : Nat) (o84 : Nat) (n85 : Int) (n86 : Int) (n87 : Int) (n88 : Int) (n89 : Int) (h90 : Heap) :
    execH Tryd.prog call ro (F37.Ht call lf ro) (F37.Ut call lf ro) (sub (codeOf Tryd.f37) [true, true, true, true, true, true]) (EF 100 (updF (updF (updF (updF (updF (updF (updF f 0 (some (.slice a83 l83 c83))) 2 (some (.pointer (some ⟨p84, o84, none⟩)))) 6 (some (.int .i64 n85))) 7 (some (.int .i64 n86))) 8 (some (.int .i64 n87))) 9 (some (.int .i64 n88))) 10 (some (.int .i64 n89)))) h90 (F37.CJ9 call lf ro) = F37.J9 call lf ro a83 l83 c83 p84 o84 n85 n86 n87 n88 n89 h90 := by kernel_rfl

theorem F37.CKJ9 (call : CT) (lf ro : Nat) : KLe 100 (F37.CJ9 call lf ro) (F37.KJ9 call lf ro) :=
  (KLe.refl _)

theorem F37.BJ9 (call : CT) (lf ro : Nat) : ∀ e h, Shaped 100 e → LeO (F37.PJ9 (F37.J9 call lf ro) e h) (execK Tryd.prog call lf ro (sub (codeOf Tryd.f37) [true, true, true, true, true, true]) e h (F37.KJ9 call lf ro)) := by
    rintro e h ⟨f, rfl⟩
    unfold F37.PJ9
    refine getK_le fun w0 g0 => ?_
    rw [EF_get (by decide)] at g0
    refine sliceK_le fun a154 l154 c154 z192 => ?_
    subst z192
    refine getK_le fun w2 g2 => ?_
    rw [EF_get (by decide)] at g2
    refine ptrK_le fun p155 o155 z193 => ?_
    subst z193
    refine getK_le fun w6 g6 => ?_
    rw [EF_get (by decide)] at g6
    refine intK_le fun n156 z194 => ?_
    subst z194
    refine getK_le fun w7 g7 => ?_
    rw [EF_get (by decide)] at g7
    refine intK_le fun n157 z195 => ?_
    subst z195
    refine getK_le fun w8 g8 => ?_
    rw [EF_get (by decide)] at g8
    refine intK_le fun n158 z196 => ?_
    subst z196
    refine getK_le fun w9 g9 => ?_
    rw [EF_get (by decide)] at g9
    refine intK_le fun n159 z197 => ?_
    subst z197
    refine getK_le fun w10 g10 => ?_
    rw [EF_get (by decide)] at g10
    refine intK_le fun n160 z198 => ?_
    subst z198
    have hr := F37.RJ9 call lf ro f a154 l154 c154 p155 o155 n156 n157 n158 n159 n160 h
    rw [updF_same g0, updF_same g2, updF_same g6, updF_same g7, updF_same g8, updF_same g9, updF_same g10] at hr
    exact cut_le (H := (F37.Ht call lf ro)) (J := (F37.Ut call lf ro)) (F37.CKJ9 call lf ro) ⟨(hd_free rfl), ⟨(hd_free rfl), (fun e h hs => F37.BJ15 call lf ro  e h hs)⟩⟩ hr

theorem F37.RJ5 (call : CT) (lf ro : Nat) (f : Nat → Option Value) (a30 : Option Addr) (l30 : Nat) (c30 : Nat) (p31 : Nat) (o31 : Nat) (h32 : Heap) :
    execH Tryd.prog call ro (F37.Ht call lf ro) (F37.Ut call lf ro) (sub (codeOf Tryd.f37) [true, true, true]) (EF 100 (updF (updF f 0 (some (.slice a30 l30 c30))) 2 (some (.pointer (some ⟨p31, o31, none⟩))))) h32 (F37.CJ5 call lf ro) = F37.J5 call lf ro a30 l30 c30 p31 o31 h32 := by kernel_rfl

theorem F37.CKJ5 (call : CT) (lf ro : Nat) : KLe 100 (F37.CJ5 call lf ro) (F37.KJ5 call lf ro) :=
  (KLe.refl _)

theorem F37.BJ5 (call : CT) (lf ro : Nat) : ∀ e h, Shaped 100 e → LeO (F37.PJ5 (F37.J5 call lf ro) e h) (execK Tryd.prog call lf ro (sub (codeOf Tryd.f37) [true, true, true]) e h (F37.KJ5 call lf ro)) := by
    rintro e h ⟨f, rfl⟩
    unfold F37.PJ5
    refine getK_le fun w0 g0 => ?_
    rw [EF_get (by decide)] at g0
    refine sliceK_le fun a161 l161 c161 z206 => ?_
    subst z206
    refine getK_le fun w2 g2 => ?_
    rw [EF_get (by decide)] at g2
    refine ptrK_le fun p162 o162 z207 => ?_
    subst z207
    have hr := F37.RJ5 call lf ro f a161 l161 c161 p162 o162 h
    rw [updF_same g0, updF_same g2] at hr
    exact cut_le (H := (F37.Ht call lf ro)) (J := (F37.Ut call lf ro)) (F37.CKJ5 call lf ro) ⟨(hd_free rfl), ⟨(hd_free rfl), ⟨(hd_free rfl), (fun e h hs => F37.BJ9 call lf ro  e h hs)⟩⟩⟩ hr

theorem F37.RJ3 (call : CT) (lf ro : Nat) (f : Nat → Option Value) (a7 : Option Addr) (l7 : Nat) (c7 : Nat) (p8 : Nat) (o8 : Nat) (h9 : Heap) :
    execH Tryd.prog call ro (F37.Ht call lf ro) (F37.Ut call lf ro) (sub (codeOf Tryd.f37) [true, true]) (EF 100 (updF (updF f 0 (some (.slice a7 l7 c7))) 2 (some (.pointer (some ⟨p8, o8, none⟩))))) h9 (F37.CJ3 call lf ro) = F37.J3 call lf ro a7 l7 c7 p8 o8 h9 := by kernel_rfl

theorem F37.CKJ3 (call : CT) (lf ro : Nat) : KLe 100 (F37.CJ3 call lf ro) (F37.KJ3 call lf ro) :=
  (KLe.refl _)

theorem F37.BJ3 (call : CT) (lf ro : Nat) : ∀ e h, Shaped 100 e → LeO (F37.PJ3 (F37.J3 call lf ro) e h) (execK Tryd.prog call lf ro (sub (codeOf Tryd.f37) [true, true]) e h (F37.KJ3 call lf ro)) := by
    rintro e h ⟨f, rfl⟩
    unfold F37.PJ3
    refine getK_le fun w0 g0 => ?_
    rw [EF_get (by decide)] at g0
    refine sliceK_le fun a176 l176 c176 z210 => ?_
    subst z210
    refine getK_le fun w2 g2 => ?_
    rw [EF_get (by decide)] at g2
    refine ptrK_le fun p177 o177 z211 => ?_
    subst z211
    have hr := F37.RJ3 call lf ro f a176 l176 c176 p177 o177 h
    rw [updF_same g0, updF_same g2] at hr
    exact cut_le (H := (F37.Ht call lf ro)) (J := (F37.Ut call lf ro)) (F37.CKJ3 call lf ro) ⟨(hd_free rfl), (fun e h hs => F37.BJ5 call lf ro  e h hs)⟩ hr

theorem F37.le (call : CT) (lf ro : Nat) (ax0 : Option Addr) (lx0 : Nat) (cx0 : Nat) (h : Heap) : LeO (F37.t call lf ro ax0 lx0 cx0 h) (bodyK Tryd.prog call lf ro Tryd.f37 [.slice ax0 lx0 cx0] h) :=
  body_le (c := codeOf Tryd.f37) (H := F37.Ht call lf ro) (J := F37.Ut call lf ro) rfl (Nat.le_of_ble_eq_true rfl) ⟨(hd_free rfl), ⟨(hd_free rfl), (fun e h hs => F37.BJ3 call lf ro  e h hs)⟩⟩ (by kernel_rfl)

/-! ### barscan/barscanref32.ReadAll: function 18 -/

noncomputable def F18.L9 (call : CT) (lf ro : Nat) (kb3 : (Option Addr) → Nat → Nat → (Option Addr) → Nat → Nat → Int → Heap → Out) : Nat → (Option Addr) → Nat → Nat → (Option Addr) → Nat → Nat → Int → Heap → Out
  | 0, _, _, _, _, _, _, _, _ => .fail
  | n + 1, a109, l109, c109, a110, l110, c110, n111, h112 =>
  letJ (fun (b140 : Bool) (h141 : Heap) =>
  (ifK b140 (F18.L9 call lf ro kb3 n a109 l109 c109 a110 l110 c110 (IntKind.i64.wrap (n111 + 1)) h141) (kb3 a109 l109 c109 a110 l110 c110 n111 h141))) fun j142 =>
  ifK (decide (n111 < (l109 : Int))) (bindO (idxO Tryd.prog 22 (.slice a109 l109 c109) (.int .i64 n111) h112) fun v143 h144 =>
  bindO (loadO Tryd.prog 5 v143 h144) fun v145 h146 =>
  intK .u8 v145 fun n147 =>
  bindO (call ro 38 [.int .u8 n147] h146) fun v148 h149 =>
  boolK v148 fun b150 =>
  j142 b150 h149) (j142 false h112)

noncomputable def F18.P9 (kb : (Option Addr) → Nat → Nat → (Option Addr) → Nat → Nat → Int → Heap → Out) (e : Env) (h : Heap) : Out :=
  getK (e.get 0) fun w0 =>
  sliceK w0 fun a151 l151 c151 =>
  getK (e.get 4) fun w4 =>
  sliceK w4 fun a152 l152 c152 =>
  getK (e.get 5) fun w5 =>
  intK .i64 w5 fun n153 =>
  kb a151 l151 c151 a152 l152 c152 n153 h

noncomputable def F18.J7 (call : CT) (lf ro : Nat) (kb3 : (Option Addr) → Nat → Nat → (Option Addr) → Nat → Nat → Int → Heap → Out) (a71 : Option Addr) (l71 : Nat) (c71 : Nat) (a72 : Option Addr) (l72 : Nat) (c72 : Nat) (n73 : Int) (p74 : Nat) (o74 : Nat) (n75 : Int) (h76 : Heap) : Out :=
  bindO (loadO Tryd.prog 24 (.pointer (some ⟨p74, o74, none⟩)) h76) fun v170 h171 =>
  aggK v170 fun q172 =>
  consK q172 fun x173 q174 =>
  intK .i64 x173 fun n175 =>
  consK q174 fun x176 q177 =>
  intK .i64 x176 fun n178 =>
  consK q177 fun x179 q180 =>
  sliceK x179 fun a181 l181 c181 =>
  nilK q180 <|
  pushJ h171 3 [.int .i64 n175, .int .i64 n178, .slice a181 l181 c181] fun h182 =>
  bindO (appO Tryd.prog ro 41 41 (.slice a72 l72 c72) (.slice (some ⟨h171.next, 0, none⟩) 1 1) h182) fun v183 h184 =>
  sliceK v183 fun a185 l185 c185 =>
  F18.L9 call lf ro kb3 lf a71 l71 c71 a185 l185 c185 (IntKind.i64.wrap (n73 + n75)) h184

noncomputable def F18.PJ7 (kb : (Option Addr) → Nat → Nat → (Option Addr) → Nat → Nat → Int → Nat → Nat → Int → Heap → Out) (e : Env) (h : Heap) : Out :=
  getK (e.get 0) fun w0 =>
  sliceK w0 fun a186 l186 c186 =>
  getK (e.get 4) fun w4 =>
  sliceK w4 fun a187 l187 c187 =>
  getK (e.get 5) fun w5 =>
  intK .i64 w5 fun n188 =>
  getK (e.get 6) fun w6 =>
  ptrK w6 fun p189 o189 =>
  getK (e.get 8) fun w8 =>
  intK .i64 w8 fun n190 =>
  kb a186 l186 c186 a187 l187 c187 n188 p189 o189 n190 h

noncomputable def F18.J4 (call : CT) (lf ro : Nat) (kb3 : (Option Addr) → Nat → Nat → (Option Addr) → Nat → Nat → Int → Heap → Out) (a7 : Option Addr) (l7 : Nat) (c7 : Nat) (a8 : Option Addr) (l8 : Nat) (c8 : Nat) (n9 : Int) (h10 : Heap) : Out :=
  bindO (sliceO Tryd.prog 22 (.slice a7 l7 c7) (some (.int .i64 n9)) none h10) fun v221 h222 =>
  sliceK v221 fun a223 l223 c223 =>
  bindO (call ro 37 [.slice a223 l223 c223] h222) fun v224 h225 =>
  tupK v224 fun q226 =>
  consK q226 fun x227 q228 =>
  aggK x227 fun q229 =>
  consK q229 fun x230 q231 =>
  intK .i64 x230 fun n232 =>
  consK q231 fun x233 q234 =>
  intK .i64 x233 fun n235 =>
  consK q234 fun x236 q237 =>
  sliceK x236 fun a238 l238 c238 =>
  nilK q237 <|
  consK q228 fun x239 q240 =>
  intK .i64 x239 fun n241 =>
  consK q240 fun x242 q243 =>
  intK .i64 x242 fun n244 =>
  consK q243 fun x245 q246 =>
  intK .i64 x245 fun n247 =>
  nilK q246 <|
  pushJ h225 1 [.int .i64 0, .int .i64 0, .slice none 0 0] fun h248 =>
  bindO (storeO Tryd.prog ro 24 (.pointer (some ⟨h225.next, 0, none⟩)) (.agg #[.int .i64 n232, .int .i64 n235, .slice a238 l238 c238]) h248) fun v249 h250 =>
  ifK (n247 != 0) (Out.ok (.tuple #[.slice none 0 0, .int .i64 n247]) h250) (F18.J7 call lf ro kb3 a7 l7 c7 a8 l8 c8 n9 h225.next 0 n244 h250)

noncomputable def F18.PJ4 (kb : (Option Addr) → Nat → Nat → (Option Addr) → Nat → Nat → Int → Heap → Out) (e : Env) (h : Heap) : Out :=
  getK (e.get 0) fun w0 =>
  sliceK w0 fun a251 l251 c251 =>
  getK (e.get 4) fun w4 =>
  sliceK w4 fun a252 l252 c252 =>
  getK (e.get 5) fun w5 =>
  intK .i64 w5 fun n253 =>
  kb a251 l251 c251 a252 l252 c252 n253 h

noncomputable def F18.L3 (call : CT) (lf ro : Nat) : Nat → (Option Addr) → Nat → Nat → (Option Addr) → Nat → Nat → Int → Heap → Out
  | 0, _, _, _, _, _, _, _, _ => .fail
  | n + 1, a1, l1, c1, a2, l2, c2, n3, h4 =>
  letJ (fun (b254 : Bool) =>
  (ifK b254 (F18.J4 call lf ro (F18.L3 call lf ro n) a1 l1 c1 a2 l2 c2 n3 h4) (Out.ok (.tuple #[.slice a2 l2 c2, .int .i64 0]) h4))) fun j255 =>
  ifK ((l2 : Int) == 0) (j255 true) (j255 (decide (n3 < (l1 : Int))))

noncomputable def F18.P3 (kb : (Option Addr) → Nat → Nat → (Option Addr) → Nat → Nat → Int → Heap → Out) (e : Env) (h : Heap) : Out :=
  getK (e.get 0) fun w0 =>
  sliceK w0 fun a256 l256 c256 =>
  getK (e.get 4) fun w4 =>
  sliceK w4 fun a257 l257 c257 =>
  getK (e.get 5) fun w5 =>
  intK .i64 w5 fun n258 =>
  kb a256 l256 c256 a257 l257 c257 n258 h

noncomputable def F18.t (call : CT) (lf ro : Nat) (ax0 : Option Addr) (lx0 : Nat) (cx0 : Nat) (h : Heap) : Out :=
  F18.L3 call lf ro lf ax0 lx0 cx0 none 0 0 0 h

noncomputable def F18.Ht (call : CT) (lf ro : Nat) (i : Nat) (e : Env) (h : Heap) : Out := ifK (i == 3) (F18.P3 (F18.L3 call lf ro lf) e h) (.fail)
noncomputable def F18.Ut (call : CT) (lf ro : Nat) (i : Nat) : Option (Env → Heap → Out) := none

noncomputable def F18.H9 (call : CT) (lf ro : Nat) (kb3 : (Option Addr) → Nat → Nat → (Option Addr) → Nat → Nat → Int → Heap → Out) (kb9 : (Option Addr) → Nat → Nat → (Option Addr) → Nat → Nat → Int → Heap → Out) (i : Nat) (e : Env) (h : Heap) : Out := ifK (i == 9) (F18.P9 (F18.L9 call lf ro kb3 lf) e h) (ifK (i == 3) (F18.P3 (F18.L3 call lf ro lf) e h) (.fail))
noncomputable def F18.U9 (call : CT) (lf ro : Nat) (kb3 : (Option Addr) → Nat → Nat → (Option Addr) → Nat → Nat → Int → Heap → Out) (kb9 : (Option Addr) → Nat → Nat → (Option Addr) → Nat → Nat → Int → Heap → Out) (i : Nat) : Option (Env → Heap → Out) := ifJ (i == 7) (some (F18.PJ7 (F18.J7 call lf ro kb3))) (ifJ (i == 4) (some (F18.PJ4 (F18.J4 call lf ro kb3))) (none))

noncomputable def F18.H3 (call : CT) (lf ro : Nat) (kb3 : (Option Addr) → Nat → Nat → (Option Addr) → Nat → Nat → Int → Heap → Out) (i : Nat) (e : Env) (h : Heap) : Out := ifK (i == 9) (F18.P9 (F18.L9 call lf ro kb3 lf) e h) (ifK (i == 3) (F18.P3 (F18.L3 call lf ro lf) e h) (.fail))
noncomputable def F18.U3 (call : CT) (lf ro : Nat) (kb3 : (Option Addr) → Nat → Nat → (Option Addr) → Nat → Nat → Int → Heap → Out) (i : Nat) : Option (Env → Heap → Out) := ifJ (i == 7) (some (F18.PJ7 (F18.J7 call lf ro kb3))) (ifJ (i == 4) (some (F18.PJ4 (F18.J4 call lf ro kb3))) (none))

noncomputable def F18.C3 (call : CT) (lf ro : Nat) : COut → Out := blockK 0 (seqH Tryd.prog call ro (F18.Ht call lf ro) (F18.Ut call lf ro) (sub (codeOf Tryd.f18) [true, true, true, true]) (endK Tryd.prog Tryd.f18))

noncomputable def F18.K3 (call : CT) (lf ro : Nat) : COut → Out := blockK 0 (seqK Tryd.prog call lf ro (sub (codeOf Tryd.f18) [true, true, true, true]) (endK Tryd.prog Tryd.f18))

noncomputable def F18.C9 (call : CT) (lf ro : Nat) (kb3 : (Option Addr) → Nat → Nat → (Option Addr) → Nat → Nat → Int → Heap → Out) : COut → Out := blockK 2 (blockK 1 (outK (F18.P3 kb3) (fun i e h => F18.C3 call lf ro (.exit i e h)) (fun e h => F18.C3 call lf ro (.ret e h))))

noncomputable def F18.K9 (call : CT) (lf ro : Nat) (kb3 : (Option Addr) → Nat → Nat → (Option Addr) → Nat → Nat → Int → Heap → Out) : COut → Out := blockK 2 (blockK 1 (outK (F18.P3 kb3) (fun i e h => F18.C3 call lf ro (.exit i e h)) (fun e h => F18.C3 call lf ro (.ret e h))))

noncomputable def F18.CJ7 (call : CT) (lf ro : Nat) (kb3 : (Option Addr) → Nat → Nat → (Option Addr) → Nat → Nat → Int → Heap → Out) : COut → Out := blockK 1 (outK (F18.P3 kb3) (fun i e h => F18.C3 call lf ro (.exit i e h)) (fun e h => F18.C3 call lf ro (.ret e h)))

noncomputable def F18.KJ7 (call : CT) (lf ro : Nat) (kb3 : (Option Addr) → Nat → Nat → (Option Addr) → Nat → Nat → Int → Heap → Out) : COut → Out := blockK 1 (outK (F18.P3 kb3) (fun i e h => F18.C3 call lf ro (.exit i e h)) (fun e h => F18.C3 call lf ro (.ret e h)))

noncomputable def F18.CJ4 (call : CT) (lf ro : Nat) (kb3 : (Option Addr) → Nat → Nat → (Option Addr) → Nat → Nat → Int → Heap → Out) : COut → Out := outK (F18.P3 kb3) (fun i e h => F18.C3 call lf ro (.exit i e h)) (fun e h => F18.C3 call lf ro (.ret e h))

noncomputable def F18.KJ4 (call : CT) (lf ro : Nat) (kb3 : (Option Addr) → Nat → Nat → (Option Addr) → Nat → Nat → Int → Heap → Out) : COut → Out := outK (F18.P3 kb3) (fun i e h => F18.C3 call lf ro (.exit i e h)) (fun e h => F18.C3 call lf ro (.ret e h))

theorem F18.R9 (call : CT) (lf ro : Nat) (kb3 : (Option Addr) → Nat → Nat → (Option Addr) → Nat → Nat → Int → Heap → Out) (n : Nat) (f : Nat → Option Value) (a109 : Option Addr) (l109 : Nat) (c109 : Nat) (a110 : Option Addr) (l110 : Nat) (c110 : Nat) (n111 : Int) (h112 : Heap) :
    execH Tryd.prog call ro (F18.H9 call lf ro kb3 (F18.L9 call lf ro kb3 n)) (F18.U9 call lf ro kb3 (F18.L9 call lf ro kb3 n)) (sub (codeOf Tryd.f18) [true, true, true, false, false, false, true, false, true, true, true, true, false, false]) (EF 52 (updF (updF (updF f 0 (some (.slice a109 l109 c109))) 4 (some (.slice a110 l110 c110))) 5 (some (.int .i64 n111)))) h112 (outK (F18.P9 (F18.L9 call lf ro kb3 n)) (fun i e h => F18.C9 call lf ro kb3 (.exit i e h)) (fun e h => F18.C9 call lf ro kb3 (.ret e h))) = F18.L9 call lf ro kb3 (n + 1) a109 l109 c109 a110 l110 c110 n111 h112 := by kernel_rfl

theorem F18.CK9 (call : CT) (lf ro : Nat) (kb3 : (Option Addr) → Nat → Nat → (Option Addr) → Nat → Nat → Int → Heap → Out) : KLe 52 (F18.C9 call lf ro kb3) (F18.K9 call lf ro kb3) :=
  (KLe.block (KLe.block (KLe.refl _)))

theorem F18.B9 (call : CT) (lf ro : Nat) (kb3 : (Option Addr) → Nat → Nat → (Option Addr) → Nat → Nat → Int → Heap → Out) : ∀ n e h, Shaped 52 e → LeO (F18.P9 (F18.L9 call lf ro kb3 n) e h) (loopK (execK Tryd.prog call lf ro (sub (codeOf Tryd.f18) [true, true, true, false, false, false, true, false, true, true, true, true, false, false])) n e h (F18.K9 call lf ro kb3)) := by
  refine loop_le (fun e h k k' hs hk => execK_mono _ e h k k' hs hk) (kb := fun n => F18.P9 (F18.L9 call lf ro kb3 n)) (kx := fun i e h => F18.C9 call lf ro kb3 (.exit i e h)) (kr := fun e h => F18.C9 call lf ro kb3 (.ret e h)) ?_ ?_ (fun i e h hs => (F18.CK9 call lf ro kb3).exit i e h hs) (fun e h hs => (F18.CK9 call lf ro kb3).ret e h hs)
  · rintro e h ⟨f, rfl⟩
    unfold F18.P9
    refine getK_le fun w0 g0 => ?_
    rw [EF_get (by decide)] at g0
    refine sliceK_le fun a151 l151 c151 z259 => ?_
    subst z259
    refine getK_le fun w4 g4 => ?_
    rw [EF_get (by decide)] at g4
    refine sliceK_le fun a152 l152 c152 z260 => ?_
    subst z260
    refine getK_le fun w5 g5 => ?_
    rw [EF_get (by decide)] at g5
    refine intK_le fun n153 z261 => ?_
    subst z261
    exact LeO.refl _
  · rintro n e h ⟨f, rfl⟩
    unfold F18.P9
    refine getK_le fun w0 g0 => ?_
    rw [EF_get (by decide)] at g0
    refine sliceK_le fun a151 l151 c151 z262 => ?_
    subst z262
    refine getK_le fun w4 g4 => ?_
    rw [EF_get (by decide)] at g4
    refine sliceK_le fun a152 l152 c152 z263 => ?_
    subst z263
    refine getK_le fun w5 g5 => ?_
    rw [EF_get (by decide)] at g5
    refine intK_le fun n153 z264 => ?_
    subst z264
    have hr := F18.R9 call lf ro kb3 n f a151 l151 c151 a152 l152 c152 n153 h
    rw [updF_same g0, updF_same g4, updF_same g5] at hr
    exact round_le (H := (F18.H9 call lf ro kb3 (F18.L9 call lf ro kb3 n))) (J := (F18.U9 call lf ro kb3 (F18.L9 call lf ro kb3 n))) (hd_free rfl) hr

theorem F18.RJ7 (call : CT) (lf ro : Nat) (kb3 : (Option Addr) → Nat → Nat → (Option Addr) → Nat → Nat → Int → Heap → Out) (f : Nat → Option Value) (a71 : Option Addr) (l71 : Nat) (c71 : Nat) (a72 : Option Addr) (l72 : Nat) (c72 : Nat) (n73 : Int) (p74 : Nat) (o74 : Nat) (n75 : Int) (h76 : Heap) :
    execH Tryd.prog call ro (F18.H3 call lf ro kb3) (F18.U3 call lf ro kb3) (sub (codeOf Tryd.f18) [true, true, true, false, false, false, true, false, true, true]) (EF 52 (updF (updF (updF (updF (updF f 0 (some (.slice a71 l71 c71))) 4 (some (.slice a72 l72 c72))) 5 (some (.int .i64 n73))) 6 (some (.pointer (some ⟨p74, o74, none⟩)))) 8 (some (.int .i64 n75)))) h76 (F18.CJ7 call lf ro kb3) = F18.J7 call lf ro kb3 a71 l71 c71 a72 l72 c72 n73 p74 o74 n75 h76 := by kernel_rfl

theorem F18.CKJ7 (call : CT) (lf ro : Nat) (kb3 : (Option Addr) → Nat → Nat → (Option Addr) → Nat → Nat → Int → Heap → Out) : KLe 52 (F18.CJ7 call lf ro kb3) (F18.KJ7 call lf ro kb3) :=
  (KLe.block (KLe.refl _))

theorem F18.BJ7 (call : CT) (lf ro : Nat) (kb3 : (Option Addr) → Nat → Nat → (Option Addr) → Nat → Nat → Int → Heap → Out) : ∀ e h, Shaped 52 e → LeO (F18.PJ7 (F18.J7 call lf ro kb3) e h) (execK Tryd.prog call lf ro (sub (codeOf Tryd.f18) [true, true, true, false, false, false, true, false, true, true]) e h (F18.KJ7 call lf ro kb3)) := by
    rintro e h ⟨f, rfl⟩
    unfold F18.PJ7
    refine getK_le fun w0 g0 => ?_
    rw [EF_get (by decide)] at g0
    refine sliceK_le fun a186 l186 c186 z265 => ?_
    subst z265
    refine getK_le fun w4 g4 => ?_
    rw [EF_get (by decide)] at g4
    refine sliceK_le fun a187 l187 c187 z266 => ?_
    subst z266
    refine getK_le fun w5 g5 => ?_
    rw [EF_get (by decide)] at g5
    refine intK_le fun n188 z267 => ?_
    subst z267
    refine getK_le fun w6 g6 => ?_
    rw [EF_get (by decide)] at g6
    refine ptrK_le fun p189 o189 z268 => ?_
    subst z268
    refine getK_le fun w8 g8 => ?_
    rw [EF_get (by decide)] at g8
    refine intK_le fun n190 z269 => ?_
    subst z269
    have hr := F18.RJ7 call lf ro kb3 f a186 l186 c186 a187 l187 c187 n188 p189 o189 n190 h
    rw [updF_same g0, updF_same g4, updF_same g5, updF_same g6, updF_same g8] at hr
    exact cut_le (H := (F18.H3 call lf ro kb3)) (J := (F18.U3 call lf ro kb3)) (F18.CKJ7 call lf ro kb3) ⟨(hd_free rfl), ⟨(hd_free rfl), (fun e h hs => F18.B9 call lf ro kb3 lf e h hs)⟩⟩ hr

theorem F18.RJ4 (call : CT) (lf ro : Nat) (kb3 : (Option Addr) → Nat → Nat → (Option Addr) → Nat → Nat → Int → Heap → Out) (f : Nat → Option Value) (a7 : Option Addr) (l7 : Nat) (c7 : Nat) (a8 : Option Addr) (l8 : Nat) (c8 : Nat) (n9 : Int) (h10 : Heap) :
    execH Tryd.prog call ro (F18.H3 call lf ro kb3) (F18.U3 call lf ro kb3) (sub (codeOf Tryd.f18) [true, true, true, false, false, false, true]) (EF 52 (updF (updF (updF f 0 (some (.slice a7 l7 c7))) 4 (some (.slice a8 l8 c8))) 5 (some (.int .i64 n9)))) h10 (F18.CJ4 call lf ro kb3) = F18.J4 call lf ro kb3 a7 l7 c7 a8 l8 c8 n9 h10 := by kernel_rfl

theorem F18.CKJ4 (call : CT) (lf ro : Nat) (kb3 : (Option Addr) → Nat → Nat → (Option Addr) → Nat → Nat → Int → Heap → Out) : KLe 52 (F18.CJ4 call lf ro kb3) (F18.KJ4 call lf ro kb3) :=
  (KLe.refl _)

theorem F18.BJ4 (call : CT) (lf ro : Nat) (kb3 : (Option Addr) → Nat → Nat → (Option Addr) → Nat → Nat → Int → Heap → Out) : ∀ e h, Shaped 52 e → LeO (F18.PJ4 (F18.J4 call lf ro kb3) e h) (execK Tryd.prog call lf ro (sub (codeOf Tryd.f18) [true, true, true, false, false, false, true]) e h (F18.KJ4 call lf ro kb3)) := by
    rintro e h ⟨f, rfl⟩
    unfold F18.PJ4
    refine getK_le fun w0 g0 => ?_
    rw [EF_get (by decide)] at g0
    refine sliceK_le fun a251 l251 c251 z275 => ?_
    subst z275
    refine getK_le fun w4 g4 => ?_
    rw [EF_get (by decide)] at g4
    refine sliceK_le fun a252 l252 c252 z276 => ?_
    subst z276
    refine getK_le fun w5 g5 => ?_
    rw [EF_get (by decide)] at g5
    refine intK_le fun n253 z277 => ?_
    subst z277
    have hr := F18.RJ4 call lf ro kb3 f a251 l251 c251 a252 l252 c252 n253 h
    rw [updF_same g0, updF_same g4, updF_same g5] at hr
    exact cut_le (H := (F18.H3 call lf ro kb3)) (J := (F18.U3 call lf ro kb3)) (F18.CKJ4 call lf ro kb3) ⟨(hd_free rfl), ⟨(hd_free rfl), (fun e h hs => F18.BJ7 call lf ro kb3 e h hs)⟩⟩ hr

theorem F18.R3 (call : CT) (lf ro : Nat) (n : Nat) (f : Nat → Option Value) (a1 : Option Addr) (l1 : Nat) (c1 : Nat) (a2 : Option Addr) (l2 : Nat) (c2 : Nat) (n3 : Int) (h4 : Heap) :
    execH Tryd.prog call ro (F18.H3 call lf ro (F18.L3 call lf ro n)) (F18.U3 call lf ro (F18.L3 call lf ro n)) (sub (codeOf Tryd.f18) [true, true, true, false, false, false]) (EF 52 (updF (updF (updF f 0 (some (.slice a1 l1 c1))) 4 (some (.slice a2 l2 c2))) 5 (some (.int .i64 n3)))) h4 (outK (F18.P3 (F18.L3 call lf ro n)) (fun i e h => F18.C3 call lf ro (.exit i e h)) (fun e h => F18.C3 call lf ro (.ret e h))) = F18.L3 call lf ro (n + 1) a1 l1 c1 a2 l2 c2 n3 h4 := by kernel_rfl

theorem F18.CK3 (call : CT) (lf ro : Nat) : KLe 52 (F18.C3 call lf ro) (F18.K3 call lf ro) :=
  (KLe.block (KLe.seq (H := (F18.Ht call lf ro)) (J := (F18.Ut call lf ro)) (KLe.refl _) (hd_free rfl)))

theorem F18.B3 (call : CT) (lf ro : Nat) : ∀ n e h, Shaped 52 e → LeO (F18.P3 (F18.L3 call lf ro n) e h) (loopK (execK Tryd.prog call lf ro (sub (codeOf Tryd.f18) [true, true, true, false, false, false])) n e h (F18.K3 call lf ro)) := by
  refine loop_le (fun e h k k' hs hk => execK_mono _ e h k k' hs hk) (kb := fun n => F18.P3 (F18.L3 call lf ro n)) (kx := fun i e h => F18.C3 call lf ro (.exit i e h)) (kr := fun e h => F18.C3 call lf ro (.ret e h)) ?_ ?_ (fun i e h hs => (F18.CK3 call lf ro).exit i e h hs) (fun e h hs => (F18.CK3 call lf ro).ret e h hs)
  · rintro e h ⟨f, rfl⟩
    unfold F18.P3
    refine getK_le fun w0 g0 => ?_
    rw [EF_get (by decide)] at g0
    refine sliceK_le fun a256 l256 c256 z281 => ?_
    subst z281
    refine getK_le fun w4 g4 => ?_
    rw [EF_get (by decide)] at g4
    refine sliceK_le fun a257 l257 c257 z282 => ?_
    subst z282
    refine getK_le fun w5 g5 => ?_
    rw [EF_get (by decide)] at g5
    refine intK_le fun n258 z283 => ?_
    subst z283
    exact LeO.refl _
  · rintro n e h ⟨f, rfl⟩
    unfold F18.P3
    refine getK_le fun w0 g0 => ?_
    rw [EF_get (by decide)] at g0
    refine sliceK_le fun a256 l256 c256 z284 => ?_
    subst z284
    refine getK_le fun w4 g4 => ?_
    rw [EF_get (by decide)] at g4
    refine sliceK_le fun a257 l257 c257 z285 => ?_
    subst z285
    refine getK_le fun w5 g5 => ?_
    rw [EF_get (by decide)] at g5
    refine intK_le fun n258 z286 => ?_
    subst z286
    have hr := F18.R3 call lf ro n f a256 l256 c256 a257 l257 c257 n258 h
    rw [updF_same g0, updF_same g4, updF_same g5] at hr
    exact round_le (H := (F18.H3 call lf ro (F18.L3 call lf ro n))) (J := (F18.U3 call lf ro (F18.L3 call lf ro n))) ⟨(hd_free rfl), (fun e h hs => F18.BJ4 call lf ro (F18.L3 call lf ro n) e h hs)⟩ hr

theorem F18.le (call : CT) (lf ro : Nat) (ax0 : Option Addr) (lx0 : Nat) (cx0 : Nat) (h : Heap) : LeO (F18.t call lf ro ax0 lx0 cx0 h) (bodyK Tryd.prog call lf ro Tryd.f18 [.slice ax0 lx0 cx0] h) :=
  body_le (c := codeOf Tryd.f18) (H := F18.Ht call lf ro) (J := F18.Ut call lf ro) rfl (Nat.le_of_ble_eq_true rfl) ⟨(hd_free rfl), ⟨(hd_free rfl), ⟨(hd_free rfl), ⟨(fun e h hs => F18.B3 call lf ro  lf e h hs), (hd_free rfl)⟩⟩⟩⟩ (by kernel_rfl)

/-! ### barscan/netpbm.ReadAll: function 17 -/

noncomputable def F17.L12 (call : CT) (lf ro : Nat) (kb6 : (Option Addr) → Nat → Nat → (Option Addr) → Nat → Nat → Nat → Nat → Bool → Heap → Out) : Nat → (Option Addr) → Nat → Nat → (Option Addr) → Nat → Nat → Nat → Nat → Heap → Out
  | 0, _, _, _, _, _, _, _, _, _ => .fail
  | n + 1, a99, l99, c99, a100, l100, c100, p101, o101, h102 =>
  letJ (fun (h370 : Heap) =>
  (bindO (loadO Tryd.prog 3 (.pointer (some ⟨p101, o101 + 1, none⟩)) h370) fun v372 h373 =>
  intK .i64 v372 fun n374 =>
  kb6 a99 l99 c99 a100 l100 c100 p101 o101 (decide (n374 < (l99 : Int))) h373)) fun j371 =>
  letJ (fun (b389 : Bool) (h390 : Heap) =>
  (ifK b389 (bindO (loadO Tryd.prog 3 (.pointer (some ⟨p101, o101 + 1, none⟩)) h390) fun v392 h393 =>
  intK .i64 v392 fun n394 =>
  bindO (storeO Tryd.prog ro 3 (.pointer (some ⟨p101, o101 + 1, none⟩)) (.int .i64 (IntKind.i64.wrap (n394 + 1))) h393) fun v395 h396 =>
  F17.L12 call lf ro kb6 n a99 l99 c99 a100 l100 c100 p101 o101 h396) (j371 h390))) fun j391 =>
  bindO (loadO Tryd.prog 3 (.pointer (some ⟨p101, o101 + 1, none⟩)) h102) fun v397 h398 =>
  intK .i64 v397 fun n399 =>
  ifK (decide (n399 < (l99 : Int))) (bindO (loadO Tryd.prog 3 (.pointer (some ⟨p101, o101 + 1, none⟩)) h398) fun v400 h401 =>
  intK .i64 v400 fun n402 =>
  bindO (idxO Tryd.prog 22 (.slice a99 l99 c99) (.int .i64 n402) h401) fun v403 h404 =>
  bindO (loadO Tryd.prog 5 v403 h404) fun v405 h406 =>
  intK .u8 v405 fun n407 =>
  bindO (call ro 36 [.int .u8 n407] h406) fun v408 h409 =>
  boolK v408 fun b410 =>
  j391 b410 h409) (j391 false h398)

noncomputable def F17.P12 (kb : (Option Addr) → Nat → Nat → (Option Addr) → Nat → Nat → Nat → Nat → Heap → Out) (e : Env) (h : Heap) : Out :=
  getK (e.get 0) fun w0 =>
  sliceK w0 fun a411 l411 c411 =>
  getK (e.get 4) fun w4 =>
  sliceK w4 fun a412 l412 c412 =>
  getK (e.get 5) fun w5 =>
  ptrK w5 fun p413 o413 =>
  kb a411 l411 c411 a412 l412 c412 p413 o413 h

noncomputable def F17.J11 (call : CT) (lf ro : Nat) (kb6 : (Option Addr) → Nat → Nat → (Option Addr) → Nat → Nat → Nat → Nat → Bool → Heap → Out) (a62 : Option Addr) (l62 : Nat) (c62 : Nat) (a63 : Option Addr) (l63 : Nat) (c63 : Nat) (p64 : Nat) (o64 : Nat) (p65 : Nat) (o65 : Nat) (h66 : Heap) : Out :=
  bindO (loadO Tryd.prog 24 (.pointer (some ⟨p65, o65, none⟩)) h66) fun v622 h623 =>
  aggK v622 fun q624 =>
  consK q624 fun x625 q626 =>
  intK .i64 x625 fun n627 =>
  consK q626 fun x628 q629 =>
  intK .i64 x628 fun n630 =>
  consK q629 fun x631 q632 =>
  sliceK x631 fun a633 l633 c633 =>
  nilK q632 <|
  pushJ h623 3 [.int .i64 n627, .int .i64 n630, .slice a633 l633 c633] fun h634 =>
  bindO (appO Tryd.prog ro 41 41 (.slice a63 l63 c63) (.slice (some ⟨h623.next, 0, none⟩) 1 1) h634) fun v635 h636 =>
  sliceK v635 fun a637 l637 c637 =>
  F17.L12 call lf ro kb6 lf a62 l62 c62 a637 l637 c637 p64 o64 h636

noncomputable def F17.PJ11 (kb : (Option Addr) → Nat → Nat → (Option Addr) → Nat → Nat → Nat → Nat → Nat → Nat → Heap → Out) (e : Env) (h : Heap) : Out :=
  getK (e.get 0) fun w0 =>
  sliceK w0 fun a638 l638 c638 =>
  getK (e.get 4) fun w4 =>
  sliceK w4 fun a639 l639 c639 =>
  getK (e.get 5) fun w5 =>
  ptrK w5 fun p640 o640 =>
  getK (e.get 7) fun w7 =>
  ptrK w7 fun p641 o641 =>
  kb a638 l638 c638 a639 l639 c639 p640 o640 p641 o641 h

noncomputable def F17.J8 (call : CT) (lf ro : Nat) (kb6 : (Option Addr) → Nat → Nat → (Option Addr) → Nat → Nat → Nat → Nat → Bool → Heap → Out) (a10 : Option Addr) (l10 : Nat) (c10 : Nat) (a11 : Option Addr) (l11 : Nat) (c11 : Nat) (p12 : Nat) (o12 : Nat) (h13 : Heap) : Out :=
  bindO (call ro 35 [.pointer (some ⟨p12, o12, none⟩)] h13) fun v762 h763 =>
  tupK v762 fun q764 =>
  consK q764 fun x765 q766 =>
  aggK x765 fun q767 =>
  consK q767 fun x768 q769 =>
  intK .i64 x768 fun n770 =>
  consK q769 fun x771 q772 =>
  intK .i64 x771 fun n773 =>
  consK q772 fun x774 q775 =>
  sliceK x774 fun a776 l776 c776 =>
  nilK q775 <|
  consK q766 fun x777 q778 =>
  intK .i64 x777 fun n779 =>
  consK q778 fun x780 q781 =>
  intK .i64 x780 fun n782 =>
  nilK q781 <|
  pushJ h763 1 [.int .i64 0, .int .i64 0, .slice none 0 0] fun h783 =>
  bindO (storeO Tryd.prog ro 24 (.pointer (some ⟨h763.next, 0, none⟩)) (.agg #[.int .i64 n770, .int .i64 n773, .slice a776 l776 c776]) h783) fun v784 h785 =>
  ifK (n782 != 0) (Out.ok (.tuple #[.slice none 0 0, .int .i64 n782]) h785) (F17.J11 call lf ro kb6 a10 l10 c10 a11 l11 c11 p12 o12 h763.next 0 h785)

noncomputable def F17.PJ8 (kb : (Option Addr) → Nat → Nat → (Option Addr) → Nat → Nat → Nat → Nat → Heap → Out) (e : Env) (h : Heap) : Out :=
  getK (e.get 0) fun w0 =>
  sliceK w0 fun a786 l786 c786 =>
  getK (e.get 4) fun w4 =>
  sliceK w4 fun a787 l787 c787 =>
  getK (e.get 5) fun w5 =>
  ptrK w5 fun p788 o788 =>
  kb a786 l786 c786 a787 l787 c787 p788 o788 h

noncomputable def F17.L6 (call : CT) (lf ro : Nat) : Nat → (Option Addr) → Nat → Nat → (Option Addr) → Nat → Nat → Nat → Nat → Bool → Heap → Out
  | 0, _, _, _, _, _, _, _, _, _, _ => .fail
  | n + 1, a5, l5, c5, a6, l6, c6, p7, o7, b8, h9 =>
  ifK b8 (F17.J8 call lf ro (F17.L6 call lf ro n) a5 l5 c5 a6 l6 c6 p7 o7 h9) (Out.ok (.tuple #[.slice a6 l6 c6, .int .i64 0]) h9)

noncomputable def F17.P6 (kb : (Option Addr) → Nat → Nat → (Option Addr) → Nat → Nat → Nat → Nat → Bool → Heap → Out) (e : Env) (h : Heap) : Out :=
  getK (e.get 0) fun w0 =>
  sliceK w0 fun a789 l789 c789 =>
  getK (e.get 4) fun w4 =>
  sliceK w4 fun a790 l790 c790 =>
  getK (e.get 5) fun w5 =>
  ptrK w5 fun p791 o791 =>
  getK (e.get 6) fun w6 =>
  boolK w6 fun b792 =>
  kb a789 l789 c789 a790 l790 c790 p791 o791 b792 h

noncomputable def F17.J3 (call : CT) (lf ro : Nat) (a1 : Option Addr) (l1 : Nat) (c1 : Nat) (h2 : Heap) : Out :=
  pushJ h2 1 [.slice a1 l1 c1, .int .i64 0] fun h4 =>
  F17.L6 call lf ro lf a1 l1 c1 none 0 0 h2.next 0 true h4

noncomputable def F17.PJ3 (kb : (Option Addr) → Nat → Nat → Heap → Out) (e : Env) (h : Heap) : Out :=
  getK (e.get 0) fun w0 =>
  sliceK w0 fun a793 l793 c793 =>
  kb a793 l793 c793 h

noncomputable def F17.t (call : CT) (lf ro : Nat) (ax0 : Option Addr) (lx0 : Nat) (cx0 : Nat) (h : Heap) : Out :=
  ifK (decide ((lx0 : Int) > 4194304)) (Out.ok (.tuple #[.slice none 0 0, .int .i64 4]) h) (F17.J3 call lf ro ax0 lx0 cx0 h)

noncomputable def F17.Ht (call : CT) (lf ro : Nat) (i : Nat) (e : Env) (h : Heap) : Out := ifK (i == 6) (F17.P6 (F17.L6 call lf ro lf) e h) (.fail)
noncomputable def F17.Ut (call : CT) (lf ro : Nat) (i : Nat) : Option (Env → Heap → Out) := ifJ (i == 3) (some (F17.PJ3 (F17.J3 call lf ro))) (none)

noncomputable def F17.H12 (call : CT) (lf ro : Nat) (kb6 : (Option Addr) → Nat → Nat → (Option Addr) → Nat → Nat → Nat → Nat → Bool → Heap → Out) (kb12 : (Option Addr) → Nat → Nat → (Option Addr) → Nat → Nat → Nat → Nat → Heap → Out) (i : Nat) (e : Env) (h : Heap) : Out := ifK (i == 12) (F17.P12 (F17.L12 call lf ro kb6 lf) e h) (ifK (i == 6) (F17.P6 (F17.L6 call lf ro lf) e h) (.fail))
noncomputable def F17.U12 (call : CT) (lf ro : Nat) (kb6 : (Option Addr) → Nat → Nat → (Option Addr) → Nat → Nat → Nat → Nat → Bool → Heap → Out) (kb12 : (Option Addr) → Nat → Nat → (Option Addr) → Nat → Nat → Nat → Nat → Heap → Out) (i : Nat) : Option (Env → Heap → Out) := ifJ (i == 11) (some (F17.PJ11 (F17.J11 call lf ro kb6))) (ifJ (i == 8) (some (F17.PJ8 (F17.J8 call lf ro kb6))) (ifJ (i == 3) (some (F17.PJ3 (F17.J3 call lf ro))) (none)))

noncomputable def F17.H6 (call : CT) (lf ro : Nat) (kb6 : (Option Addr) → Nat → Nat → (Option Addr) → Nat → Nat → Nat → Nat → Bool → Heap → Out) (i : Nat) (e : Env) (h : Heap) : Out := ifK (i == 12) (F17.P12 (F17.L12 call lf ro kb6 lf) e h) (ifK (i == 6) (F17.P6 (F17.L6 call lf ro lf) e h) (.fail))
noncomputable def F17.U6 (call : CT) (lf ro : Nat) (kb6 : (Option Addr) → Nat → Nat → (Option Addr) → Nat → Nat → Nat → Nat → Bool → Heap → Out) (i : Nat) : Option (Env → Heap → Out) := ifJ (i == 11) (some (F17.PJ11 (F17.J11 call lf ro kb6))) (ifJ (i == 8) (some (F17.PJ8 (F17.J8 call lf ro kb6))) (ifJ (i == 3) (some (F17.PJ3 (F17.J3 call lf ro))) (none)))

noncomputable def F17.C6 (call : CT) (lf ro : Nat) : COut → Out := blockK 0 (seqH Tryd.prog call ro (F17.Ht call lf ro) (F17.Ut call lf ro) (sub (codeOf Tryd.f17) [true, true, true, true, true]) (endK Tryd.prog Tryd.f17))

noncomputable def F17.K6 (call : CT) (lf ro : Nat) : COut → Out := blockK 0 (seqK Tryd.prog call lf ro (sub (codeOf Tryd.f17) [true, true, true, true, true]) (endK Tryd.prog Tryd.f17))

noncomputable def F17.CJ3 (call : CT) (lf ro : Nat) : COut → Out := endK Tryd.prog Tryd.f17

noncomputable def F17.KJ3 (call : CT) (lf ro : Nat) : COut → Out := endK Tryd.prog Tryd.f17

noncomputable def F17.C12 (call : CT) (lf ro : Nat) (kb6 : (Option Addr) → Nat → Nat → (Option Addr) → Nat → Nat → Nat → Nat → Bool → Heap → Out) : COut → Out := blockK 2 (blockK 1 (seqH Tryd.prog call ro (F17.H6 call lf ro kb6) (F17.U6 call lf ro kb6) (sub (codeOf Tryd.f17) [true, true, true, true, false, true, false, false, true, true]) (outK (F17.P6 kb6) (fun i e h => F17.C6 call lf ro (.exit i e h)) (fun e h => F17.C6 call lf ro (.ret e h)))))

noncomputable def F17.K12 (call : CT) (lf ro : Nat) (kb6 : (Option Addr) → Nat → Nat → (Option Addr) → Nat → Nat → Nat → Nat → Bool → Heap → Out) : COut → Out := blockK 2 (blockK 1 (seqK Tryd.prog call lf ro (sub (codeOf Tryd.f17) [true, true, true, true, false, true, false, false, true, true]) (outK (F17.P6 kb6) (fun i e h => F17.C6 call lf ro (.exit i e h)) (fun e h => F17.C6 call lf ro (.ret e h)))))

noncomputable def F17.CJ11 (call : CT) (lf ro : Nat) (kb6 : (Option Addr) → Nat → Nat → (Option Addr) → Nat → Nat → Nat → Nat → Bool → Heap → Out) : COut → Out := blockK 1 (seqH Tryd.prog call ro (F17.H6 call lf ro kb6) (F17.U6 call lf ro kb6) (sub (codeOf Tryd.f17) [true, true, true, true, false, true, false, false, true, true]) (outK (F17.P6 kb6) (fun i e h => F17.C6 call lf ro (.exit i e h)) (fun e h => F17.C6 call lf ro (.ret e h))))

noncomputable def F17.KJ11 (call : CT) (lf ro : Nat) (kb6 : (Option Addr) → Nat → Nat → (Option Addr) → Nat → Nat → Nat → Nat → Bool → Heap → Out) : COut → Out := blockK 1 (seqK Tryd.prog call lf ro (sub (codeOf Tryd.f17) [true, true, true, true, false, true, false, false, true, true]) (outK (F17.P6 kb6) (fun i e h => F17.C6 call lf ro (.exit i e h)) (fun e h => F17.C6 call lf ro (.ret e h))))

noncomputable def F17.CJ8 (call : CT) (lf ro : Nat) (kb6 : (Option Addr) → Nat → Nat → (Option Addr) → Nat → Nat → Nat → Nat → Bool → Heap → Out) : COut → Out := outK (F17.P6 kb6) (fun i e h => F17.C6 call lf ro (.exit i e h)) (fun e h => F17.C6 call lf ro (.ret e h))

noncomputable def F17.KJ8 (call : CT) (lf ro : Nat) (kb6 : (Option Addr) → Nat → Nat → (Option Addr) → Nat → Nat → Nat → Nat → Bool → Heap → Out) : COut → Out := outK (F17.P6 kb6) (fun i e h => F17.C6 call lf ro (.exit i e h)) (fun e h => F17.C6 call lf ro (.ret e h))

theorem F17.R12 (call : CT) (lf ro : Nat) (kb6 : (Option Addr) → Nat → Nat → (Option Addr) → Nat → Nat → Nat → Nat → Bool → Heap → Out) (n : Nat) (f : Nat → Option Value) (a99 : Option Addr) (l99 : Nat) (c99 : Nat) (a100 : Option Addr) (l100 : Nat) (c100 : Nat) (p101 : Nat) (o101 : Nat) (h102 : Heap) :
    execH Tryd.prog call ro (F17.H12 call lf ro kb6 (F17.L12 call lf ro kb6 n)) (F17.U12 call lf ro kb6 (F17.L12 call lf ro kb6 n)) (sub (codeOf Tryd.f17) [true, true, true, true, false, true, false, false, true, false, false, true, true, true, false, false]) (EF 62 (updF (updF (updF f 0 (some (.slice a99 l99 c99))) 4 (some (.slice a100 l100 c100))) 5 (some (.pointer (some ⟨p101, o101, none⟩))))) h102 (outK (F17.P12 (F17.L12 call lf ro kb6 n)) (fun i e h => F17.C12 call lf ro kb6 (.exit i e h)) (fun e h => F17.C12 call lf ro kb6 (.ret e h))) = F17.L12 call lf ro kb6 (n + 1) a99 l99 c99 a100 l100 c100 p101 o101 h102 := by kernel_rfl

theorem F17.CK12 (call : CT) (lf ro : Nat) (kb6 : (Option Addr) → Nat → Nat → (Option Addr) → Nat → Nat → Nat → Nat → Bool → Heap → Out) : KLe 62 (F17.C12 call lf ro kb6) (F17.K12 call lf ro kb6) :=
  (KLe.block (KLe.block (KLe.seq (H := (F17.H6 call lf ro kb6)) (J := (F17.U6 call lf ro kb6)) (KLe.refl _) (hd_free rfl))))

theorem F17.B12 (call : CT) (lf ro : Nat) (kb6 : (Option Addr) → Nat → Nat → (Option Addr) → Nat → Nat → Nat → Nat → Bool → Heap → Out) : ∀ n e h, Shaped 62 e → LeO (F17.P12 (F17.L12 call lf ro kb6 n) e h) (loopK (execK Tryd.prog call lf ro (sub (codeOf Tryd.f17) [true, true, true, true, false, true, false, false, true, false, false, true, true, true, false, false])) n e h (F17.K12 call lf ro kb6)) := by
  refine loop_le (fun e h k k' hs hk => execK_mono _ e h k k' hs hk) (kb := fun n => F17.P12 (F17.L12 call lf ro kb6 n)) (kx := fun i e h => F17.C12 call lf ro kb6 (.exit i e h)) (kr := fun e h => F17.C12 call lf ro kb6 (.ret e h)) ?_ ?_ (fun i e h hs => (F17.CK12 call lf ro kb6).exit i e h hs) (fun e h hs => (F17.CK12 call lf ro kb6).ret e h hs)
  · rintro e h ⟨f, rfl⟩
    unfold F17.P12
    refine getK_le fun w0 g0 => ?_
    rw [EF_get (by decide)] at g0
    refine sliceK_le fun a411 l411 c411 z794 => ?_
    subst z794
    refine getK_le fun w4 g4 => ?_
    rw [EF_get (by decide)] at g4
    refine sliceK_le fun a412 l412 c412 z795 => ?_
    subst z795
    refine getK_le fun w5 g5 => ?_
    rw [EF_get (by decide)] at g5
    refine ptrK_le fun p413 o413 z796 => ?_
    subst z796
    exact LeO.refl _
  · rintro n e h ⟨f, rfl⟩
    unfold F17.P12
    refine getK_le fun w0 g0 => ?_
    rw [EF_get (by decide)] at g0
    refine sliceK_le fun a411 l411 c411 z797 => ?_
    subst z797
    refine getK_le fun w4 g4 => ?_
    rw [EF_get (by decide)] at g4
    refine sliceK_le fun a412 l412 c412 z798 => ?_
    subst z798
    refine getK_le fun w5 g5 => ?_
    rw [EF_get (by decide)] at g5
    refine ptrK_le fun p413 o413 z799 => ?_
    subst z799
    have hr := F17.R12 call lf ro kb6 n f a411 l411 c411 a412 l412 c412 p413 o413 h
    rw [updF_same g0, updF_same g4, updF_same g5] at hr
    exact round_le (H := (F17.H12 call lf ro kb6 (F17.L12 call lf ro kb6 n))) (J := (F17.U12 call lf ro kb6 (F17.L12 call lf ro kb6 n))) (hd_free rfl) hr

theorem F17.RJ11 (call : CT) (lf ro : Nat) (kb6 : (Option Addr) → Nat → Nat → (Option Addr) → Nat → Nat → Nat → Nat → Bool → Heap → Out) (f : Nat → Option Value) (a62 : Option Addr) (l62 : Nat) (c62 : Nat) (a63 : Option Addr) (l63 : Nat) (c63 : Nat) (p64 : Nat) (o64 : Nat) (p65 : Nat) (o65 : Nat) (h66 : Heap) :
    execH Tryd.prog call ro (F17.H6 call lf ro kb6) (F17.U6 call lf ro kb6) (sub (codeOf Tryd.f17) [true, true, true, true, false, true, false, false, true, false, false, true, true]) (EF 62 (updF (updF (updF (updF f 0 (some (.slice a62 l62 c62))) 4 (some (.slice a63 l63 c63))) 5 (some (.pointer (some ⟨p64, o64, none⟩)))) 7 (some (.pointer (some ⟨p65, o65, none⟩))))) h66 (F17.CJ11 call lf ro kb6) = F17.J11 call lf ro kb6 a62 l62 c62 a63 l63 c63 p64 o64 p65 o65 h66 := by kernel_rfl

theorem F17.CKJ11 (call : CT) (lf ro : Nat) (kb6 : (Option Addr) → Nat → Nat → (Option Addr) → Nat → Nat → Nat → Nat → Bool → Heap → Out) : KLe 62 (F17.CJ11 call lf ro kb6) (F17.KJ11 call lf ro kb6) :=
  (KLe.block (KLe.seq (H := (F17.H6 call lf ro kb6)) (J := (F17.U6 call lf ro kb6)) (KLe.refl _) (hd_free rfl)))

theorem F17.BJ11 (call : CT) (lf ro : Nat) (kb6 : (Option Addr) → Nat → Nat → (Option Addr) → Nat → Nat → Nat → Nat → Bool → Heap → Out) : ∀ e h, Shaped 62 e → LeO (F17.PJ11 (F17.J11 call lf ro kb6) e h) (execK Tryd.prog call lf ro (sub (codeOf Tryd.f17) [true, true, true, true, false, true, false, false, true, false, false, true, true]) e h (F17.KJ11 call lf ro kb6)) := by
    rintro e h ⟨f, rfl⟩
    unfold F17.PJ11
    refine getK_le fun w0 g0 => ?_
    rw [EF_get (by decide)] at g0
    refine sliceK_le fun a638 l638 c638 z800 => ?_
    subst z800
    refine getK_le fun w4 g4 => ?_
    rw [EF_get (by decide)] at g4
    refine sliceK_le fun a639 l639 c639 z801 => ?_
    subst z801
    refine getK_le fun w5 g5 => ?_
    rw [EF_get (by decide)] at g5
    refine ptrK_le fun p640 o640 z802 => ?_
    subst z802
    refine getK_le fun w7 g7 => ?_
    rw [EF_get (by decide)] at g7
    refine ptrK_le fun p641 o641 z803 => ?_
    subst z803
    have hr := F17.RJ11 call lf ro kb6 f a638 l638 c638 a639 l639 c639 p640 o640 p641 o641 h
    rw [updF_same g0, updF_same g4, updF_same g5, updF_same g7] at hr
    exact cut_le (H := (F17.H6 call lf ro kb6)) (J := (F17.U6 call lf ro kb6)) (F17.CKJ11 call lf ro kb6) ⟨(hd_free rfl), (fun e h hs => F17.B12 call lf ro kb6 lf e h hs)⟩ hr

theorem F17.RJ8 (call : CT) (lf ro : Nat) (kb6 : (Option Addr) → Nat → Nat → (Option Addr) → Nat → Nat → Nat → Nat → Bool → Heap → Out) (f : Nat → Option Value) (a10 : Option Addr) (l10 : Nat) (c10 : Nat) (a11 : Option Addr) (l11 : Nat) (c11 : Nat) (p12 : Nat) (o12 : Nat) (h13 : Heap) :
    execH Tryd.prog call ro (F17.H6 call lf ro kb6) (F17.U6 call lf ro kb6) (sub (codeOf Tryd.f17) [true, true, true, true, false, true, false, false, true]) (EF 62 (updF (updF (updF f 0 (some (.slice a10 l10 c10))) 4 (some (.slice a11 l11 c11))) 5 (some (.pointer (some ⟨p12, o12, none⟩))))) h13 (F17.CJ8 call lf ro kb6) = F17.J8 call lf ro kb6 a10 l10 c10 a11 l11 c11 p12 o12 h13 := by kernel_rfl

theorem F17.CKJ8 (call : CT) (lf ro : Nat) (kb6 : (Option Addr) → Nat → Nat → (Option Addr) → Nat → Nat → Nat → Nat → Bool → Heap → Out) : KLe 62 (F17.CJ8 call lf ro kb6) (F17.KJ8 call lf ro kb6) :=
  (KLe.refl _)

theorem F17.BJ8 (call : CT) (lf ro : Nat) (kb6 : (Option Addr) → Nat → Nat → (Option Addr) → Nat → Nat → Nat → Nat → Bool → Heap → Out) : ∀ e h, Shaped 62 e → LeO (F17.PJ8 (F17.J8 call lf ro kb6) e h) (execK Tryd.prog call lf ro (sub (codeOf Tryd.f17) [true, true, true, true, false, true, false, false, true]) e h (F17.KJ8 call lf ro kb6)) := by
    rintro e h ⟨f, rfl⟩
    unfold F17.PJ8
    refine getK_le fun w0 g0 => ?_
    rw [EF_get (by decide)] at g0
    refine sliceK_le fun a786 l786 c786 z808 => ?_
    subst z808
    refine getK_le fun w4 g4 => ?_
    rw [EF_get (by decide)] at g4
    refine sliceK_le fun a787 l787 c787 z809 => ?_
    subst z809
    refine getK_le fun w5 g5 => ?_
    rw [EF_get (by decide)] at g5
    refine ptrK_le fun p788 o788 z810 => ?_
    subst z810
    have hr := F17.RJ8 call lf ro kb6 f a786 l786 c786 a787 l787 c787 p788 o788 h
    rw [updF_same g0, updF_same g4, updF_same g5] at hr
    exact cut_le (H := (F17.H6 call lf ro kb6)) (J := (F17.U6 call lf ro kb6)) (F17.CKJ8 call lf ro kb6) ⟨⟨(hd_free rfl), ⟨(hd_free rfl), (fun e h hs => F17.BJ11 call lf ro kb6 e h hs)⟩⟩, (hd_free rfl)⟩ hr

theorem F17.R6 (call : CT) (lf ro : Nat) (n : Nat) (f : Nat → Option Value) (a5 : Option Addr) (l5 : Nat) (c5 : Nat) (a6 : Option Addr) (l6 : Nat) (c6 : Nat) (p7 : Nat) (o7 : Nat) (b8 : Bool) (h9 : Heap) :
    execH Tryd.prog call ro (F17.H6 call lf ro (F17.L6 call lf ro n)) (F17.U6 call lf ro (F17.L6 call lf ro n)) (sub (codeOf Tryd.f17) [true, true, true, true, false, true, false, false]) (EF 62 (updF (updF (updF (updF f 0 (some (.slice a5 l5 c5))) 4 (some (.slice a6 l6 c6))) 5 (some (.pointer (some ⟨p7, o7, none⟩)))) 6 (some (.bool b8)))) h9 (outK (F17.P6 (F17.L6 call lf ro n)) (fun i e h => F17.C6 call lf ro (.exit i e h)) (fun e h => F17.C6 call lf ro (.ret e h))) = F17.L6 call lf ro (n + 1) a5 l5 c5 a6 l6 c6 p7 o7 b8 h9 := by kernel_rfl

theorem F17.CK6 (call : CT) (lf ro : Nat) : KLe 62 (F17.C6 call lf ro) (F17.K6 call lf ro) :=
  (KLe.block (KLe.seq (H := (F17.Ht call lf ro)) (J := (F17.Ut call lf ro)) (KLe.refl _) (hd_free rfl)))

theorem F17.B6 (call : CT) (lf ro : Nat) : ∀ n e h, Shaped 62 e → LeO (F17.P6 (F17.L6 call lf ro n) e h) (loopK (execK Tryd.prog call lf ro (sub (codeOf Tryd.f17) [true, true, true, true, false, true, false, false])) n e h (F17.K6 call lf ro)) := by
  refine loop_le (fun e h k k' hs hk => execK_mono _ e h k k' hs hk) (kb := fun n => F17.P6 (F17.L6 call lf ro n)) (kx := fun i e h => F17.C6 call lf ro (.exit i e h)) (kr := fun e h => F17.C6 call lf ro (.ret e h)) ?_ ?_ (fun i e h hs => (F17.CK6 call lf ro).exit i e h hs) (fun e h hs => (F17.CK6 call lf ro).ret e h hs)
  · rintro e h ⟨f, rfl⟩
    unfold F17.P6
    refine getK_le fun w0 g0 => ?_
    rw [EF_get (by decide)] at g0
    refine sliceK_le fun a789 l789 c789 z814 => ?_
    subst z814
    refine getK_le fun w4 g4 => ?_
    rw [EF_get (by decide)] at g4
    refine sliceK_le fun a790 l790 c790 z815 => ?_
    subst z815
    refine getK_le fun w5 g5 => ?_
    rw [EF_get (by decide)] at g5
    refine ptrK_le fun p791 o791 z816 => ?_
    subst z816
    refine getK_le fun w6 g6 => ?_
    rw [EF_get (by decide)] at g6
    refine boolK_le fun b792 z817 => ?_
    subst z817
    exact LeO.refl _
  · rintro n e h ⟨f, rfl⟩
    unfold F17.P6
    refine getK_le fun w0 g0 => ?_
    rw [EF_get (by decide)] at g0
    refine sliceK_le fun a789 l789 c789 z818 => ?_
    subst z818
    refine getK_le fun w4 g4 => ?_
    rw [EF_get (by decide)] at g4
    refine sliceK_le fun a790 l790 c790 z819 => ?_
    subst z819
    refine getK_le fun w5 g5 => ?_
    rw [EF_get (by decide)] at g5
    refine ptrK_le fun p791 o791 z820 => ?_
    subst z820
    refine getK_le fun w6 g6 => ?_
    rw [EF_get (by decide)] at g6
    refine boolK_le fun b792 z821 => ?_
    subst z821
    have hr := F17.R6 call lf ro n f a789 l789 c789 a790 l790 c790 p791 o791 b792 h
    rw [updF_same g0, updF_same g4, updF_same g5, updF_same g6] at hr
    exact round_le (H := (F17.H6 call lf ro (F17.L6 call lf ro n))) (J := (F17.U6 call lf ro (F17.L6 call lf ro n))) ⟨(hd_free rfl), (fun e h hs => F17.BJ8 call lf ro (F17.L6 call lf ro n) e h hs)⟩ hr

theorem F17.RJ3 (call : CT) (lf ro : Nat) (f : Nat → Option Value) (a1 : Option Addr) (l1 : Nat) (c1 : Nat) (h2 : Heap) :
    execH Tryd.prog call ro (F17.Ht call lf ro) (F17.Ut call lf ro) (sub (codeOf Tryd.f17) [true, true]) (EF 62 (updF f 0 (some (.slice a1 l1 c1)))) h2 (F17.CJ3 call lf ro) = F17.J3 call lf ro a1 l1 c1 h2 := by kernel_rfl

theorem F17.CKJ3 (call : CT) (lf ro : Nat) : KLe 62 (F17.CJ3 call lf ro) (F17.KJ3 call lf ro) :=
  (KLe.refl _)

theorem F17.BJ3 (call : CT) (lf ro : Nat) : ∀ e h, Shaped 62 e → LeO (F17.PJ3 (F17.J3 call lf ro) e h) (execK Tryd.prog call lf ro (sub (codeOf Tryd.f17) [true, true]) e h (F17.KJ3 call lf ro)) := by
    rintro e h ⟨f, rfl⟩
    unfold F17.PJ3
    refine getK_le fun w0 g0 => ?_
    rw [EF_get (by decide)] at g0
    refine sliceK_le fun a793 l793 c793 z822 => ?_
    subst z822
    have hr := F17.RJ3 call lf ro f a793 l793 c793 h
    rw [updF_same g0] at hr
    exact cut_le (H := (F17.Ht call lf ro)) (J := (F17.Ut call lf ro)) (F17.CKJ3 call lf ro) ⟨(hd_free rfl), ⟨(hd_free rfl), ⟨⟨(hd_free rfl), (fun e h hs => F17.B6 call lf ro  lf e h hs)⟩, (hd_free rfl)⟩⟩⟩ hr

theorem F17.le (call : CT) (lf ro : Nat) (ax0 : Option Addr) (lx0 : Nat) (cx0 : Nat) (h : Heap) : LeO (F17.t call lf ro ax0 lx0 cx0 h) (bodyK Tryd.prog call lf ro Tryd.f17 [.slice ax0 lx0 cx0] h) :=
  body_le (c := codeOf Tryd.f17) (H := F17.Ht call lf ro) (J := F17.Ut call lf ro) rfl (Nat.le_of_ble_eq_true rfl) ⟨(hd_free rfl), ⟨(hd_free rfl), (fun e h hs => F17.BJ3 call lf ro  e h hs)⟩⟩ (by kernel_rfl)

/-! ### barscan/barscanref32.Same: function 15 -/

noncomputable def F15.J6 (call : CT) (lf ro : Nat) (kb4 : Nat → Nat → Nat → Nat → Int → Heap → Out) (p39 : Nat) (o39 : Nat) (p40 : Nat) (o40 : Nat) (n41 : Int) (h42 : Heap) : Out :=
  bindN (loadO Tryd.prog 22 (.pointer (some ⟨p39, o39 + 2, none⟩)) h42) fun v155 h156 =>
  sliceK v155 fun a157 l157 c157 =>
  bindN (idxO Tryd.prog 22 (.slice a157 l157 c157) (.int .i64 n41) h156) fun v158 h159 =>
  bindN (loadO Tryd.prog 5 v158 h159) fun v160 h161 =>
  intK .u8 v160 fun n162 =>
  bindN (loadO Tryd.prog 22 (.pointer (some ⟨p40, o40 + 2, none⟩)) h161) fun v163 h164 =>
  sliceK v163 fun a165 l165 c165 =>
  bindN (idxO Tryd.prog 22 (.slice a165 l165 c165) (.int .i64 n41) h164) fun v166 h167 =>
  bindN (loadO Tryd.prog 5 v166 h167) fun v168 h169 =>
  intK .u8 v168 fun n170 =>
  ifK (n162 != n170) (Out.ok (.bool false) h169) (kb4 p39 o39 p40 o40 (IntKind.i64.wrap (n41 + 1)) h169)

noncomputable def F15.PJ6 (kb : Nat → Nat → Nat → Nat → Int → Heap → Out) (e : Env) (h : Heap) : Out :=
  getK (e.get 2) fun w2 =>
  ptrK w2 fun p171 o171 =>
  getK (e.get 3) fun w3 =>
  ptrK w3 fun p172 o172 =>
  getK (e.get 5) fun w5 =>
  intK .i64 w5 fun n173 =>
  kb p171 o171 p172 o172 n173 h

noncomputable def F15.L4 (call : CT) (lf ro : Nat) : Nat → Nat → Nat → Nat → Nat → Int → Heap → Out
  | 0, _, _, _, _, _, _ => .fail
  | n + 1, p29, o29, p30, o30, n31, h32 =>
  bindO (loadO Tryd.prog 22 (.pointer (some ⟨p29, o29 + 2, none⟩)) h32) fun v177 h178 =>
  sliceK v177 fun a179 l179 c179 =>
  ifK (decide (n31 < (l179 : Int))) (F15.J6 call lf ro (F15.L4 call lf ro n) p29 o29 p30 o30 n31 h178) (Out.ok (.bool true) h178)

noncomputable def F15.P4 (kb : Nat → Nat → Nat → Nat → Int → Heap → Out) (e : Env) (h : Heap) : Out :=
  getK (e.get 2) fun w2 =>
  ptrK w2 fun p180 o180 =>
  getK (e.get 3) fun w3 =>
  ptrK w3 fun p181 o181 =>
  getK (e.get 5) fun w5 =>
  intK .i64 w5 fun n182 =>
  kb p180 o180 p181 o181 n182 h

noncomputable def F15.J3 (call : CT) (lf ro : Nat) (p26 : Nat) (o26 : Nat) (p27 : Nat) (o27 : Nat) (h28 : Heap) : Out :=
  F15.L4 call lf ro lf p26 o26 p27 o27 0 h28

noncomputable def F15.PJ3 (kb : Nat → Nat → Nat → Nat → Heap → Out) (e : Env) (h : Heap) : Out :=
  getK (e.get 2) fun w2 =>
  ptrK w2 fun p183 o183 =>
  getK (e.get 3) fun w3 =>
  ptrK w3 fun p184 o184 =>
  kb p183 o183 p184 o184 h

noncomputable def F15.t (call : CT) (lf ro : Nat) (x0_0 : Int) (x0_1 : Int) (ax0_2 : Option Addr) (lx0_2 : Nat) (cx0_2 : Nat) (x1_0 : Int) (x1_1 : Int) (ax1_2 : Option Addr) (lx1_2 : Nat) (cx1_2 : Nat) (h : Heap) : Out :=
  pushJ h 1 [.int .i64 x0_0, .int .i64 x0_1, .slice ax0_2 lx0_2 cx0_2] fun h3 =>
  pushJ h3 1 [.int .i64 x1_0, .int .i64 x1_1, .slice ax1_2 lx1_2 cx1_2] fun h4 =>
  letJ (fun (b23 : Bool) (h24 : Heap) =>
  (ifK b23 (Out.ok (.bool false) h24) (F15.J3 call lf ro h.next 0 h3.next 0 h24))) fun j25 =>
  bindO (loadO Tryd.prog 3 (.pointer (some ⟨h.next, 0, none⟩)) h4) fun v185 h186 =>
  intK .i64 v185 fun n187 =>
  bindO (loadO Tryd.prog 3 (.pointer (some ⟨h3.next, 0, none⟩)) h186) fun v188 h189 =>
  intK .i64 v188 fun n190 =>
  ifK (n187 != n190) (j25 true h189) (bindO (loadO Tryd.prog 3 (.pointer (some ⟨h.next, 1, none⟩)) h189) fun v191 h192 =>
  intK .i64 v191 fun n193 =>
  bindO (loadO Tryd.prog 3 (.pointer (some ⟨h3.next, 1, none⟩)) h192) fun v194 h195 =>
  intK .i64 v194 fun n196 =>
  ifK (n193 != n196) (j25 true h195) (bindO (loadO Tryd.prog 22 (.pointer (some ⟨h.next, 2, none⟩)) h195) fun v197 h198 =>
  sliceK v197 fun a199 l199 c199 =>
  bindO (loadO Tryd.prog 22 (.pointer (some ⟨h3.next, 2, none⟩)) h198) fun v200 h201 =>
  sliceK v200 fun a202 l202 c202 =>
  j25 ((l199 : Int) != (l202 : Int)) h201))

noncomputable def F15.Ht (call : CT) (lf ro : Nat) (i : Nat) (e : Env) (h : Heap) : Out := ifK (i == 4) (F15.P4 (F15.L4 call lf ro lf) e h) (.fail)
noncomputable def F15.Ut (call : CT) (lf ro : Nat) (i : Nat) : Option (Env → Heap → Out) := ifJ (i == 3) (some (F15.PJ3 (F15.J3 call lf ro))) (none)

noncomputable def F15.H4 (call : CT) (lf ro : Nat) (kb4 : Nat → Nat → Nat → Nat → Int → Heap → Out) (i : Nat) (e : Env) (h : Heap) : Out := ifK (i == 4) (F15.P4 (F15.L4 call lf ro lf) e h) (.fail)
noncomputable def F15.U4 (call : CT) (lf ro : Nat) (kb4 : Nat → Nat → Nat → Nat → Int → Heap → Out) (i : Nat) : Option (Env → Heap → Out) := ifJ (i == 6) (some (F15.PJ6 (F15.J6 call lf ro kb4))) (ifJ (i == 3) (some (F15.PJ3 (F15.J3 call lf ro))) (none))

noncomputable def F15.C4 (call : CT) (lf ro : Nat) : COut → Out := blockK 0 (seqH Tryd.prog call ro (F15.Ht call lf ro) (F15.Ut call lf ro) (sub (codeOf Tryd.f15) [true, true, true]) (endK Tryd.prog Tryd.f15))

noncomputable def F15.K4 (call : CT) (lf ro : Nat) : COut → Out := blockK 0 (seqK Tryd.prog call lf ro (sub (codeOf Tryd.f15) [true, true, true]) (endK Tryd.prog Tryd.f15))

noncomputable def F15.CJ3 (call : CT) (lf ro : Nat) : COut → Out := endK Tryd.prog Tryd.f15

noncomputable def F15.KJ3 (call : CT) (lf ro : Nat) : COut → Out := endK Tryd.prog Tryd.f15

noncomputable def F15.CJ6 (call : CT) (lf ro : Nat) (kb4 : Nat → Nat → Nat → Nat → Int → Heap → Out) : COut → Out := outK (F15.P4 kb4) (fun i e h => F15.C4 call lf ro (.exit i e h)) (fun e h => F15.C4 call lf ro (.ret e h))

noncomputable def F15.KJ6 (call : CT) (lf ro : Nat) (kb4 : Nat → Nat → Nat → Nat → Int → Heap → Out) : COut → Out := outK (F15.P4 kb4) (fun i e h => F15.C4 call lf ro (.exit i e h)) (fun e h => F15.C4 call lf ro (.ret e h))

theorem F15.RJ6 (call : CT) (lf ro : Nat) (kb4 : Nat → Nat → Nat → Nat → Int → Heap → Out) (f : Nat → Option Value) (p39 : Nat) (o39 : Nat) (p40 : Nat) (o40 : Nat) (n41 : Int) (h42 : Heap) :
    execH Tryd.prog call ro (F15.H4 call lf ro kb4) (F15.U4 call lf ro kb4) (sub (codeOf Tryd.f15) [true, true, false, true, false, false, true]) (EF 45 (updF (updF (updF f 2 (some (.pointer (some ⟨p39, o39, none⟩)))) 3 (some (.pointer (some ⟨p40, o40, none⟩)))) 5 (some (.int .i64 n41)))) h42 (F15.CJ6 call lf ro kb4) = F15.J6 call lf ro kb4 p39 o39 p40 o40 n41 h42 := by kernel_rfl

theorem F15.CKJ6 (call : CT) (lf ro : Nat) (kb4 : Nat → Nat → Nat → Nat → Int → Heap → Out) : KLe 45 (F15.CJ6 call lf ro kb4) (F15.KJ6 call lf ro kb4) :=
  (KLe.refl _)

theorem F15.BJ6 (call : CT) (lf ro : Nat) (kb4 : Nat → Nat → Nat → Nat → Int → Heap → Out) : ∀ e h, Shaped 45 e → LeO (F15.PJ6 (F15.J6 call lf ro kb4) e h) (execK Tryd.prog call lf ro (sub (codeOf Tryd.f15) [true, true, false, true, false, false, true]) e h (F15.KJ6 call lf ro kb4)) := by
    rintro e h ⟨f, rfl⟩
    unfold F15.PJ6
    refine getK_le fun w2 g2 => ?_
    rw [EF_get (by decide)] at g2
    refine ptrK_le fun p171 o171 z203 => ?_
    subst z203
    refine getK_le fun w3 g3 => ?_
    rw [EF_get (by decide)] at g3
    refine ptrK_le fun p172 o172 z204 => ?_
    subst z204
    refine getK_le fun w5 g5 => ?_
    rw [EF_get (by decide)] at g5
    refine intK_le fun n173 z205 => ?_
    subst z205
    have hr := F15.RJ6 call lf ro kb4 f p171 o171 p172 o172 n173 h
    rw [updF_same g2, updF_same g3, updF_same g5] at hr
    exact cut_le (H := (F15.H4 call lf ro kb4)) (J := (F15.U4 call lf ro kb4)) (F15.CKJ6 call lf ro kb4) (hd_free rfl) hr

theorem F15.R4 (call : CT) (lf ro : Nat) (n : Nat) (f : Nat → Option Value) (p29 : Nat) (o29 : Nat) (p30 : Nat) (o30 : Nat) (n31 : Int) (h32 : Heap) :
    execH Tryd.prog call ro (F15.H4 call lf ro (F15.L4 call lf ro n)) (F15.U4 call lf ro (F15.L4 call lf ro n)) (sub (codeOf Tryd.f15) [true, true, false, true, false, false]) (EF 45 (updF (updF (updF f 2 (some (.pointer (some ⟨p29, o29, none⟩)))) 3 (some (.pointer (some ⟨p30, o30, none⟩)))) 5 (some (.int .i64 n31)))) h32 (outK (F15.P4 (F15.L4 call lf ro n)) (fun i e h => F15.C4 call lf ro (.exit i e h)) (fun e h => F15.C4 call lf ro (.ret e h))) = F15.L4 call lf ro (n + 1) p29 o29 p30 o30 n31 h32 := by kernel_rfl

theorem F15.CK4 (call : CT) (lf ro : Nat) : KLe 45 (F15.C4 call lf ro) (F15.K4 call lf ro) :=
  (KLe.block (KLe.seq (H := (F15.Ht call lf ro)) (J := (F15.Ut call lf ro)) (KLe.refl _) (hd_free rfl)))

theorem F15.B4 (call : CT) (lf ro : Nat) : ∀ n e h, Shaped 45 e → LeO (F15.P4 (F15.L4 call lf ro n) e h) (loopK (execK Tryd.prog call lf ro (sub (codeOf Tryd.f15) [true, true, false, true, false, false])) n e h (F15.K4 call lf ro)) := by
  refine loop_le (fun e h k k' hs hk => execK_mono _ e h k k' hs hk) (kb := fun n => F15.P4 (F15.L4 call lf ro n)) (kx := fun i e h => F15.C4 call lf ro (.exit i e h)) (kr := fun e h => F15.C4 call lf ro (.ret e h)) ?_ ?_ (fun i e h hs => (F15.CK4 call lf ro).exit i e h hs) (fun e h hs => (F15.CK4 call lf ro).ret e h hs)
  · rintro e h ⟨f, rfl⟩
    unfold F15.P4
    refine getK_le fun w2 g2 => ?_
    rw [EF_get (by decide)] at g2
    refine ptrK_le fun p180 o180 z209 => ?_
    subst z209
    refine getK_le fun w3 g3 => ?_
    rw [EF_get (by decide)] at g3
    refine ptrK_le fun p181 o181 z210 => ?_
    subst z210
    refine getK_le fun w5 g5 => ?_
    rw [EF_get (by decide)] at g5
    refine intK_le fun n182 z211 => ?_
    subst z211
    exact LeO.refl _
  · rintro n e h ⟨f, rfl⟩
    unfold F15.P4
    refine getK_le fun w2 g2 => ?_
    rw [EF_get (by decide)] at g2
    refine ptrK_le fun p180 o180 z212 => ?_
    subst z212
    refine getK_le fun w3 g3 => ?_
    rw [EF_get (by decide)] at g3
    refine ptrK_le fun p181 o181 z213 => ?_
    subst z213
    refine getK_le fun w5 g5 => ?_
    rw [EF_get (by decide)] at g5
    refine intK_le fun n182 z214 => ?_
    subst z214
    have hr := F15.R4 call lf ro n f p180 o180 p181 o181 n182 h
    rw [updF_same g2, updF_same g3, updF_same g5] at hr
    exact round_le (H := (F15.H4 call lf ro (F15.L4 call lf ro n))) (J := (F15.U4 call lf ro (F15.L4 call lf ro n))) ⟨(hd_free rfl), (fun e h hs => F15.BJ6 call lf ro (F15.L4 call lf ro n) e h hs)⟩ hr

theorem F15.RJ3 (call : CT) (lf ro : Nat) (f : Nat → Option Value) (p26 : Nat) (o26 : Nat) (p27 : Nat) (o27 : Nat) (h28 : Heap) :
    execH Tryd.prog call ro (F15.Ht call lf ro) (F15.Ut call lf ro) (sub (codeOf Tryd.f15) [true, true]) (EF 45 (updF (updF f 2 (some (.pointer (some ⟨p26, o26, none⟩)))) 3 (some (.pointer (some ⟨p27, o27, none⟩))))) h28 (F15.CJ3 call lf ro) = F15.J3 call lf ro p26 o26 p27 o27 h28 := by kernel_rfl

theorem F15.CKJ3 (call : CT) (lf ro : Nat) : KLe 45 (F15.CJ3 call lf ro) (F15.KJ3 call lf ro) :=
  (KLe.refl _)

theorem F15.BJ3 (call : CT) (lf ro : Nat) : ∀ e h, Shaped 45 e → LeO (F15.PJ3 (F15.J3 call lf ro) e h) (execK Tryd.prog call lf ro (sub (codeOf Tryd.f15) [true, true]) e h (F15.KJ3 call lf ro)) := by
    rintro e h ⟨f, rfl⟩
    unfold F15.PJ3
    refine getK_le fun w2 g2 => ?_
    rw [EF_get (by decide)] at g2
    refine ptrK_le fun p183 o183 z215 => ?_
    subst z215
    refine getK_le fun w3 g3 => ?_
    rw [EF_get (by decide)] at g3
    refine ptrK_le fun p184 o184 z216 => ?_
    subst z216
    have hr := F15.RJ3 call lf ro f p183 o183 p184 o184 h
    rw [updF_same g2, updF_same g3] at hr
    exact cut_le (H := (F15.Ht call lf ro)) (J := (F15.Ut call lf ro)) (F15.CKJ3 call lf ro) ⟨⟨(hd_free rfl), (fun e h hs => F15.B4 call lf ro  lf e h hs)⟩, (hd_free rfl)⟩ hr

theorem F15.le (call : CT) (lf ro : Nat) (x0_0 : Int) (x0_1 : Int) (ax0_2 : Option Addr) (lx0_2 : Nat) (cx0_2 : Nat) (x1_0 : Int) (x1_1 : Int) (ax1_2 : Option Addr) (lx1_2 : Nat) (cx1_2 : Nat) (h : Heap) : LeO (F15.t call lf ro x0_0 x0_1 ax0_2 lx0_2 cx0_2 x1_0 x1_1 ax1_2 lx1_2 cx1_2 h) (bodyK Tryd.prog call lf ro Tryd.f15 [.agg #[.int .i64 x0_0, .int .i64 x0_1, .slice ax0_2 lx0_2 cx0_2], .agg #[.int .i64 x1_0, .int .i64 x1_1, .slice ax1_2 lx1_2 cx1_2]] h) :=
  body_le (c := codeOf Tryd.f15) (H := F15.Ht call lf ro) (J := F15.Ut call lf ro) rfl (Nat.le_of_ble_eq_true rfl) ⟨(hd_free rfl), ⟨(hd_free rfl), (fun e h hs => F15.BJ3 call lf ro  e h hs)⟩⟩ (by kernel_rfl)

/-! ### barscan/barscanlaw32.NetpbmSeveral: function 7 -/

noncomputable def F7.J10 (call : CT) (lf ro : Nat) (kb8 : (Option Addr) → Nat → Nat → (Option Addr) → Nat → Nat → Int → Heap → Out) (a54 : Option Addr) (l54 : Nat) (c54 : Nat) (a55 : Option Addr) (l55 : Nat) (c55 : Nat) (n56 : Int) (h57 : Heap) : Out :=
  bindN (idxO Tryd.prog 41 (.slice a54 l54 c54) (.int .i64 n56) h57) fun v275 h276 =>
  bindN (loadO Tryd.prog 24 v275 h276) fun v277 h278 =>
  aggK v277 fun q279 =>
  consK q279 fun x280 q281 =>
  intK .i64 x280 fun n282 =>
  consK q281 fun x283 q284 =>
  intK .i64 x283 fun n285 =>
  consK q284 fun x286 q287 =>
  sliceK x286 fun a288 l288 c288 =>
  nilK q287 <|
  bindN (idxO Tryd.prog 41 (.slice a55 l55 c55) (.int .i64 n56) h278) fun v289 h290 =>
  bindN (loadO Tryd.prog 24 v289 h290) fun v291 h292 =>
  aggK v291 fun q293 =>
  consK q293 fun x294 q295 =>
  intK .i64 x294 fun n296 =>
  consK q295 fun x297 q298 =>
  intK .i64 x297 fun n299 =>
  consK q298 fun x300 q301 =>
  sliceK x300 fun a302 l302 c302 =>
  nilK q301 <|
  bindO (call ro 15 [.agg #[.int .i64 n282, .int .i64 n285, .slice a288 l288 c288], .agg #[.int .i64 n296, .int .i64 n299, .slice a302 l302 c302]] h292) fun v303 h304 =>
  boolK v303 fun b305 =>
  ifK (!b305) (Out.ok (.bool false) h304) (kb8 a54 l54 c54 a55 l55 c55 (IntKind.i64.wrap (n56 + 1)) h304)

noncomputable def F7.PJ10 (kb : (Option Addr) → Nat → Nat → (Option Addr) → Nat → Nat → Int → Heap → Out) (e : Env) (h : Heap) : Out :=
  getK (e.get 3) fun w3 =>
  sliceK w3 fun a306 l306 c306 =>
  getK (e.get 5) fun w5 =>
  sliceK w5 fun a307 l307 c307 =>
  getK (e.get 7) fun w7 =>
  intK .i64 w7 fun n308 =>
  kb a306 l306 c306 a307 l307 c307 n308 h

noncomputable def F7.L8 (call : CT) (lf ro : Nat) : Nat → (Option Addr) → Nat → Nat → (Option Addr) → Nat → Nat → Int → Heap → Out
  | 0, _, _, _, _, _, _, _, _ => .fail
  | n + 1, a50, l50, c50, a51, l51, c51, n52, h53 =>
  ifK (decide (n52 < (l50 : Int))) (F7.J10 call lf ro (F7.L8 call lf ro n) a50 l50 c50 a51 l51 c51 n52 h53) (bindO (call ro 9 [] h53) fun v312 h313 =>
  boolK v312 fun b314 =>
  Out.ok (.bool b314) h313)

noncomputable def F7.P8 (kb : (Option Addr) → Nat → Nat → (Option Addr) → Nat → Nat → Int → Heap → Out) (e : Env) (h : Heap) : Out :=
  getK (e.get 3) fun w3 =>
  sliceK w3 fun a315 l315 c315 =>
  getK (e.get 5) fun w5 =>
  sliceK w5 fun a316 l316 c316 =>
  getK (e.get 7) fun w7 =>
  intK .i64 w7 fun n317 =>
  kb a315 l315 c315 a316 l316 c316 n317 h

noncomputable def F7.J7 (call : CT) (lf ro : Nat) (a47 : Option Addr) (l47 : Nat) (c47 : Nat) (a48 : Option Addr) (l48 : Nat) (c48 : Nat) (h49 : Heap) : Out :=
  F7.L8 call lf ro lf a47 l47 c47 a48 l48 c48 0 h49

noncomputable def F7.PJ7 (kb : (Option Addr) → Nat → Nat → (Option Addr) → Nat → Nat → Heap → Out) (e : Env) (h : Heap) : Out :=
  getK (e.get 3) fun w3 =>
  sliceK w3 fun a318 l318 c318 =>
  getK (e.get 5) fun w5 =>
  sliceK w5 fun a319 l319 c319 =>
  kb a318 l318 c318 a319 l319 c319 h

noncomputable def F7.J3 (call : CT) (lf ro : Nat) (a7 : Option Addr) (l7 : Nat) (c7 : Nat) (h8 : Heap) : Out :=
  bindO (call ro 17 [.slice a7 l7 c7] h8) fun v18 h19 =>
  tupK v18 fun q20 =>
  consK q20 fun x21 q22 =>
  sliceK x21 fun a23 l23 c23 =>
  consK q22 fun x24 q25 =>
  intK .i64 x24 fun n26 =>
  nilK q25 <|
  bindO (call ro 18 [.slice a7 l7 c7] h19) fun v36 h37 =>
  tupK v36 fun q38 =>
  consK q38 fun x39 q40 =>
  sliceK x39 fun a41 l41 c41 =>
  consK q40 fun x42 q43 =>
  intK .i64 x42 fun n44 =>
  nilK q43 <|
  letJ (fun (b45 : Bool) =>
  (ifK b45 (Out.ok (.bool false) h37) (F7.J7 call lf ro a23 l23 c23 a41 l41 c41 h37))) fun j46 =>
  ifK (n26 != n44) (j46 true) (j46 ((l23 : Int) != (l41 : Int)))

noncomputable def F7.PJ3 (kb : (Option Addr) → Nat → Nat → Heap → Out) (e : Env) (h : Heap) : Out :=
  getK (e.get 0) fun w0 =>
  sliceK w0 fun a320 l320 c320 =>
  kb a320 l320 c320 h

noncomputable def F7.t (call : CT) (lf ro : Nat) (ax0 : Option Addr) (lx0 : Nat) (cx0 : Nat) (h : Heap) : Out :=
  ifK (decide ((lx0 : Int) > 2000)) (bindO (call ro 9 [] h) fun v4 h5 =>
  boolK v4 fun b6 =>
  Out.ok (.bool b6) h5) (F7.J3 call lf ro ax0 lx0 cx0 h)

noncomputable def F7.Ht (call : CT) (lf ro : Nat) (i : Nat) (e : Env) (h : Heap) : Out := ifK (i == 8) (F7.P8 (F7.L8 call lf ro lf) e h) (.fail)
noncomputable def F7.Ut (call : CT) (lf ro : Nat) (i : Nat) : Option (Env → Heap → Out) := ifJ (i == 7) (some (F7.PJ7 (F7.J7 call lf ro))) (ifJ (i == 3) (some (F7.PJ3 (F7.J3 call lf ro))) (none))

noncomputable def F7.H8 (call : CT) (lf ro : Nat) (kb8 : (Option Addr) → Nat → Nat → (Option Addr) → Nat → Nat → Int → Heap → Out) (i : Nat) (e : Env) (h : Heap) : Out := ifK (i == 8) (F7.P8 (F7.L8 call lf ro lf) e h) (.fail)
noncomputable def F7.U8 (call : CT) (lf ro : Nat) (kb8 : (Option Addr) → Nat → Nat → (Option Addr) → Nat → Nat → Int → Heap → Out) (i : Nat) : Option (Env → Heap → Out) := ifJ (i == 10) (some (F7.PJ10 (F7.J10 call lf ro kb8))) (ifJ (i == 7) (some (F7.PJ7 (F7.J7 call lf ro))) (ifJ (i == 3) (some (F7.PJ3 (F7.J3 call lf ro))) (none)))

noncomputable def F7.C8 (call : CT) (lf ro : Nat) : COut → Out := blockK 0 (seqH Tryd.prog call ro (F7.Ht call lf ro) (F7.Ut call lf ro) (sub (codeOf Tryd.f7) [true, true, true, true, true, true]) (endK Tryd.prog Tryd.f7))

noncomputable def F7.K8 (call : CT) (lf ro : Nat) : COut → Out := blockK 0 (seqK Tryd.prog call lf ro (sub (codeOf Tryd.f7) [true, true, true, true, true, true]) (endK Tryd.prog Tryd.f7))

noncomputable def F7.CJ7 (call : CT) (lf ro : Nat) : COut → Out := endK Tryd.prog Tryd.f7

noncomputable def F7.KJ7 (call : CT) (lf ro : Nat) : COut → Out := endK Tryd.prog Tryd.f7

noncomputable def F7.CJ3 (call : CT) (lf ro : Nat) : COut → Out := endK Tryd.prog Tryd.f7

noncomputable def F7.KJ3 (call : CT) (lf ro : Nat) : COut → Out := endK Tryd.prog Tryd.f7

noncomputable def F7.CJ10 (call : CT) (lf ro : Nat) (kb8 : (Option Addr) → Nat → Nat → (Option Addr) → Nat → Nat → Int → Heap → Out) : COut → Out := outK (F7.P8 kb8) (fun i e h => F7.C8 call lf ro (.exit i e h)) (fun e h => F7.C8 call lf ro (.ret e h))

noncomputable def F7.KJ10 (call : CT) (lf ro : Nat) (kb8 : (Option Addr) → Nat → Nat → (Option Addr) → Nat → Nat → Int → Heap → Out) : COut → Out := outK (F7.P8 kb8) (fun i e h => F7.C8 call lf ro (.exit i e h)) (fun e h => F7.C8 call lf ro (.ret e h))

theorem F7.RJ10 (call : CT) (lf ro : Nat) (kb8 : (Option Addr) → Nat → Nat → (Option Addr) → Nat → Nat → Int → Heap → Out) (f : Nat → Option Value) (a54 : Option Addr) (l54 : Nat) (c54 : Nat) (a55 : Option Addr) (l55 : Nat) (c55 : Nat) (n56 : Int) (h57 : Heap) :
    execH Tryd.prog call ro (F7.H8 call lf ro kb8) (F7.U8 call lf ro kb8) (sub (codeOf Tryd.f7) [true, true, true, true, true, false, true, false, false, true]) (EF 49 (updF (updF (updF f 3 (some (.slice a54 l54 c54))) 5 (some (.slice a55 l55 c55))) 7 (some (.int .i64 n56)))) h57 (F7.CJ10 call lf ro kb8) = F7.J10 call lf ro kb8 a54 l54 c54 a55 l55 c55 n56 h57 := by kernel_rfl

theorem F7.CKJ10 (call : CT) (lf ro : Nat) (kb8 : (Option Addr) → Nat → Nat → (Option Addr) → Nat → Nat → Int → Heap → Out) : KLe 49 (F7.CJ10 call lf ro kb8) (F7.KJ10 call lf ro kb8) :=
  (KLe.refl _)

theorem F7.BJ10 (call : CT) (lf ro : Nat) (kb8 : (Option Addr) → Nat → Nat → (Option Addr) → Nat → Nat → Int → Heap → Out) : ∀ e h, Shaped 49 e → LeO (F7.PJ10 (F7.J10 call lf ro kb8) e h) (execK Tryd.prog call lf ro (sub (codeOf Tryd.f7) [true, true, true, true, true, false, true, false, false, true]) e h (F7.KJ10 call lf ro kb8)) := by
    rintro e h ⟨f, rfl⟩
    unfold F7.PJ10
    refine getK_le fun w3 g3 => ?_
    rw [EF_get (by decide)] at g3
    refine sliceK_le fun a306 l306 c306 z321 => ?_
    subst z321
    refine getK_le fun w5 g5 => ?_
    rw [EF_get (by decide)] at g5
    refine sliceK_le fun a307 l307 c307 z322 => ?_
    subst z322
    refine getK_le fun w7 g7 => ?_
    rw [EF_get (by decide)] at g7
    refine intK_le fun n308 z323 => ?_
    subst z323
    have hr := F7.RJ10 call lf ro kb8 f a306 l306 c306 a307 l307 c307 n308 h
    rw [updF_same g3, updF_same g5, updF_same g7] at hr
    exact cut_le (H := (F7.H8 call lf ro kb8)) (J := (F7.U8 call lf ro kb8)) (F7.CKJ10 call lf ro kb8) (hd_free rfl) hr

theorem F7.R8 (call : CT) (lf ro : Nat) (n : Nat) (f : Nat → Option Value) (a50 : Option Addr) (l50 : Nat) (c50 : Nat) (a51 : Option Addr) (l51 : Nat) (c51 : Nat) (n52 : Int) (h53 : Heap) :
    execH Tryd.prog call ro (F7.H8 call lf ro (F7.L8 call lf ro n)) (F7.U8 call lf ro (F7.L8 call lf ro n)) (sub (codeOf Tryd.f7) [true, true, true, true, true, false, true, false, false]) (EF 49 (updF (updF (updF f 3 (some (.slice a50 l50 c50))) 5 (some (.slice a51 l51 c51))) 7 (some (.int .i64 n52)))) h53 (outK (F7.P8 (F7.L8 call lf ro n)) (fun i e h => F7.C8 call lf ro (.exit i e h)) (fun e h => F7.C8 call lf ro (.ret e h))) = F7.L8 call lf ro (n + 1) a50 l50 c50 a51 l51 c51 n52 h53 := by kernel_rfl

theorem F7.CK8 (call : CT) (lf ro : Nat) : KLe 49 (F7.C8 call lf ro) (F7.K8 call lf ro) :=
  (KLe.block (KLe.seq (H := (F7.Ht call lf ro)) (J := (F7.Ut call lf ro)) (KLe.refl _) (hd_free rfl)))

theorem F7.B8 (call : CT) (lf ro : Nat) : ∀ n e h, Shaped 49 e → LeO (F7.P8 (F7.L8 call lf ro n) e h) (loopK (execK Tryd.prog call lf ro (sub (codeOf Tryd.f7) [true, true, true, true, true, false, true, false, false])) n e h (F7.K8 call lf ro)) := by
  refine loop_le (fun e h k k' hs hk => execK_mono _ e h k k' hs hk) (kb := fun n => F7.P8 (F7.L8 call lf ro n)) (kx := fun i e h => F7.C8 call lf ro (.exit i e h)) (kr := fun e h => F7.C8 call lf ro (.ret e h)) ?_ ?_ (fun i e h hs => (F7.CK8 call lf ro).exit i e h hs) (fun e h hs => (F7.CK8 call lf ro).ret e h hs)
  · rintro e h ⟨f, rfl⟩
    unfold F7.P8
    refine getK_le fun w3 g3 => ?_
    rw [EF_get (by decide)] at g3
    refine sliceK_le fun a315 l315 c315 z327 => ?_
    subst z327
    refine getK_le fun w5 g5 => ?_
    rw [EF_get (by decide)] at g5
    refine sliceK_le fun a316 l316 c316 z328 => ?_
    subst z328
    refine getK_le fun w7 g7 => ?_
    rw [EF_get (by decide)] at g7
    refine intK_le fun n317 z329 => ?_
    subst z329
    exact LeO.refl _
  · rintro n e h ⟨f, rfl⟩
    unfold F7.P8
    refine getK_le fun w3 g3 => ?_
    rw [EF_get (by decide)] at g3
    refine sliceK_le fun a315 l315 c315 z330 => ?_
    subst z330
    refine getK_le fun w5 g5 => ?_
    rw [EF_get (by decide)] at g5
    refine sliceK_le fun a316 l316 c316 z331 => ?_
    subst z331
    refine getK_le fun w7 g7 => ?_
    rw [EF_get (by decide)] at g7
    refine intK_le fun n317 z332 => ?_
    subst z332
    have hr := F7.R8 call lf ro n f a315 l315 c315 a316 l316 c316 n317 h
    rw [updF_same g3, updF_same g5, updF_same g7] at hr
    exact round_le (H := (F7.H8 call lf ro (F7.L8 call lf ro n))) (J := (F7.U8 call lf ro (F7.L8 call lf ro n))) ⟨(hd_free rfl), (fun e h hs => F7.BJ10 call lf ro (F7.L8 call lf ro n) e h hs)⟩ hr

theorem F7.RJ7 (call : CT) (lf ro : Nat) (f : Nat → Option Value) (a47 : Option Addr) (l47 : Nat) (c47 : Nat) (a48 : Option Addr) (l48 : Nat) (c48 : Nat) (h49 : Heap) :
    execH Tryd.prog call ro (F7.Ht call lf ro) (F7.Ut call lf ro) (sub (codeOf Tryd.f7) [true, true, true, true, true]) (EF 49 (updF (updF f 3 (some (.slice a47 l47 c47))) 5 (some (.slice a48 l48 c48)))) h49 (F7.CJ7 call lf ro) = F7.J7 call lf ro a47 l47 c47 a48 l48 c48 h49 := by kernel_rfl

theorem F7.CKJ7 (call : CT) (lf ro : Nat) : KLe 49 (F7.CJ7 call lf ro) (F7.KJ7 call lf ro) :=
  (KLe.refl _)

theorem F7.BJ7 (call : CT) (lf ro : Nat) : ∀ e h, Shaped 49 e → LeO (F7.PJ7 (F7.J7 call lf ro) e h) (execK Tryd.prog call lf ro (sub (codeOf Tryd.f7) [true, true, true, true, true]) e h (F7.KJ7 call lf ro)) := by
    rintro e h ⟨f, rfl⟩
    unfold F7.PJ7
    refine getK_le fun w3 g3 => ?_
    rw [EF_get (by decide)] at g3
    refine sliceK_le fun a318 l318 c318 z333 => ?_
    subst z333
    refine getK_le fun w5 g5 => ?_
    rw [EF_get (by decide)] at g5
    refine sliceK_le fun a319 l319 c319 z334 => ?_
    subst z334
    have hr := F7.RJ7 call lf ro f a318 l318 c318 a319 l319 c319 h
    rw [updF_same g3, updF_same g5] at hr
    exact cut_le (H := (F7.Ht call lf ro)) (J := (F7.Ut call lf ro)) (F7.CKJ7 call lf ro) ⟨⟨(hd_free rfl), (fun e h hs => F7.B8 call lf ro  lf e h hs)⟩, (hd_free rfl)⟩ hr

theorem F7.RJ3 (call : CT) (lf ro : Nat) (f : Nat → Option Value) (a7 : Option Addr) (l7 : Nat) (c7 : Nat) (h8 : Heap) :
    execH Tryd.prog call ro (F7.Ht call lf ro) (F7.Ut call lf ro) (sub (codeOf Tryd.f7) [true, true]) (EF 49 (updF f 0 (some (.slice a7 l7 c7)))) h8 (F7.CJ3 call lf ro) = F7.J3 call lf ro a7 l7 c7 h8 := by kernel_rfl

theorem F7.CKJ3 (call : CT) (lf ro : Nat) : KLe 49 (F7.CJ3 call lf ro) (F7.KJ3 call lf ro) :=
  (KLe.refl _)

theorem F7.BJ3 (call : CT) (lf ro : Nat) : ∀ e h, Shaped 49 e → LeO (F7.PJ3 (F7.J3 call lf ro) e h) (execK Tryd.prog call lf ro (sub (codeOf Tryd.f7) [true, true]) e h (F7.KJ3 call lf ro)) := by
    rintro e h ⟨f, rfl⟩
    unfold F7.PJ3
    refine getK_le fun w0 g0 => ?_
    rw [EF_get (by decide)] at g0
    refine sliceK_le fun a320 l320 c320 z337 => ?_
    subst z337
    have hr := F7.RJ3 call lf ro f a320 l320 c320 h
    rw [updF_same g0] at hr
    exact cut_le (H := (F7.Ht call lf ro)) (J := (F7.Ut call lf ro)) (F7.CKJ3 call lf ro) ⟨(hd_free rfl), ⟨(hd_free rfl), ⟨(hd_free rfl), (fun e h hs => F7.BJ7 call lf ro  e h hs)⟩⟩⟩ hr

theorem F7.le (call : CT) (lf ro : Nat) (ax0 : Option Addr) (lx0 : Nat) (cx0 : Nat) (h : Heap) : LeO (F7.t call lf ro ax0 lx0 cx0 h) (bodyK Tryd.prog call lf ro Tryd.f7 [.slice ax0 lx0 cx0] h) :=
  body_le (c := codeOf Tryd.f7) (H := F7.Ht call lf ro) (J := F7.Ut call lf ro) rfl (Nat.le_of_ble_eq_true rfl) ⟨(hd_free rfl), ⟨(hd_free rfl), (fun e h hs => F7.BJ3 call lf ro  e h hs)⟩⟩ (by kernel_rfl)

end Go.Proofs.YtgpnjdldpehidaaDoor
