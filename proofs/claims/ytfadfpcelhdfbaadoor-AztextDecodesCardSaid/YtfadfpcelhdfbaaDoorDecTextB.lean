/-
  More functions that the examples reach, as the interpreter runs them, written out; no statement of the seat is proved in this file.
-/
import Derived.Test.YtfadfpcelhdfbaaDoorProg
import Derived.KernelRfl
import Derived.Test.YtfadfpcelhdfbaaDoorAbsG
open Go Go.Abs Go.Proofs
set_option maxRecDepth 100000
set_option linter.unusedVariables false
namespace Go.Proofs.YtfadfpcelhdfbaaDoor

def wblit1 : ByteArray := (⟨#[115, 108, 105, 99, 101, 115, 46, 77, 105, 110, 70, 117, 110, 99, 58, 32, 101, 109, 112, 116, 121, 32, 108, 105, 115, 116]⟩ : ByteArray)
def wblit2 : ByteArray := (⟨#[32, 65, 66, 67, 68, 69, 70, 71, 72, 73, 74, 75, 76, 77, 78, 79, 80, 81, 82, 83, 84, 85, 86, 87, 88, 89, 90]⟩ : ByteArray)
def wblit3 : ByteArray := (⟨#[32, 97, 98, 99, 100, 101, 102, 103, 104, 105, 106, 107, 108, 109, 110, 111, 112, 113, 114, 115, 116, 117, 118, 119, 120, 121, 122]⟩ : ByteArray)
def wblit4 : ByteArray := (⟨#[65, 66, 67, 68, 69, 70, 71, 72, 73, 74, 75, 76, 77, 78, 79, 80, 81, 82, 83, 84, 85, 86, 87, 88, 89, 90]⟩ : ByteArray)
def wblit5 : ByteArray := (⟨#[97, 98, 99, 100, 101, 102, 103, 104, 105, 106, 107, 108, 109, 110, 111, 112, 113, 114, 115, 116, 117, 118, 119, 120, 121, 122]⟩ : ByteArray)
/-! ### slices.DeleteFunc[[]barscan/aztext.edge,barscan/aztext.edge]: function 29 -/

noncomputable def F29.J7 (call : CT) (lf ro : Nat) (kb5 : (Option Addr) → Nat → Nat → Value → Int → Int → Heap → Out) (a16 : Option Addr) (l16 : Nat) (c16 : Nat) (v17 : Value) (n18 : Int) (n19 : Int) (h20 : Heap) : Out :=
  letJ (fun (n420 : Int) (h421 : Heap) =>
  (kb5 a16 l16 c16 v17 n420 (IntKind.i64.wrap (n19 + 1)) h421)) fun j422 =>
  bindO (idxO Tryd.prog 50 (.slice a16 l16 c16) (.int .i64 n19) h20) fun v446 h447 =>
  bindO (loadO Tryd.prog 53 v446 h447) fun v448 h449 =>
  aggK v448 fun q450 =>
  consK q450 fun x451 q452 =>
  sliceK x451 fun a453 l453 c453 =>
  consK q452 fun x454 q455 =>
  sliceK x454 fun a456 l456 c456 =>
  consK q455 fun x457 q458 =>
  intK .i64 x457 fun n459 =>
  consK q458 fun x460 q461 =>
  intK .i64 x460 fun n462 =>
  consK q461 fun x463 q464 =>
  intK .i64 x463 fun n465 =>
  nilK q464 <|
  pushJ h449 1 [.slice none 0 0, .slice none 0 0, .int .i64 0, .int .i64 0, .int .i64 0] fun h466 =>
  bindO (storeO Tryd.prog ro 53 (.pointer (some ⟨h449.next, 0, none⟩)) (.agg #[.slice a453 l453 c453, .slice a456 l456 c456, .int .i64 n459, .int .i64 n462, .int .i64 n465]) h466) fun v467 h468 =>
  bindO (loadO Tryd.prog 53 (.pointer (some ⟨h449.next, 0, none⟩)) h468) fun v490 h491 =>
  aggK v490 fun q492 =>
  consK q492 fun x493 q494 =>
  sliceK x493 fun a495 l495 c495 =>
  consK q494 fun x496 q497 =>
  sliceK x496 fun a498 l498 c498 =>
  consK q497 fun x499 q500 =>
  intK .i64 x499 fun n501 =>
  consK q500 fun x502 q503 =>
  intK .i64 x502 fun n504 =>
  consK q503 fun x505 q506 =>
  intK .i64 x505 fun n507 =>
  nilK q506 <|
  bindO (callFO Tryd.prog call ro v17 [.agg #[.slice a495 l495 c495, .slice a498 l498 c498, .int .i64 n501, .int .i64 n504, .int .i64 n507]] h491) fun v508 h509 =>
  boolK v508 fun b510 =>
  ifK (!b510) (bindO (loadO Tryd.prog 53 (.pointer (some ⟨h449.next, 0, none⟩)) h509) fun v533 h534 =>
  aggK v533 fun q535 =>
  consK q535 fun x536 q537 =>
  sliceK x536 fun a538 l538 c538 =>
  consK q537 fun x539 q540 =>
  sliceK x539 fun a541 l541 c541 =>
  consK q540 fun x542 q543 =>
  intK .i64 x542 fun n544 =>
  consK q543 fun x545 q546 =>
  intK .i64 x545 fun n547 =>
  consK q546 fun x548 q549 =>
  intK .i64 x548 fun n550 =>
  nilK q549 <|
  bindO (idxO Tryd.prog 50 (.slice a16 l16 c16) (.int .i64 n18) h534) fun v551 h552 =>
  bindO (storeO Tryd.prog ro 53 v551 (.agg #[.slice a538 l538 c538, .slice a541 l541 c541, .int .i64 n544, .int .i64 n547, .int .i64 n550]) h552) fun v553 h554 =>
  j422 (IntKind.i64.wrap (n18 + 1)) h554) (j422 n18 h509)

noncomputable def F29.PJ7 (kb : (Option Addr) → Nat → Nat → Value → Int → Int → Heap → Out) (e : Env) (h : Heap) : Out :=
  getK (e.get 0) fun w0 =>
  sliceK w0 fun a555 l555 c555 =>
  getK (e.get 1) fun w1 =>
  getK (e.get 5) fun w5 =>
  intK .i64 w5 fun n556 =>
  getK (e.get 6) fun w6 =>
  intK .i64 w6 fun n557 =>
  kb a555 l555 c555 w1 n556 n557 h

noncomputable def F29.L5 (call : CT) (lf ro : Nat) : Nat → (Option Addr) → Nat → Nat → Value → Int → Int → Heap → Out
  | 0, _, _, _, _, _, _, _ => .fail
  | n + 1, a11, l11, c11, v12, n13, n14, h15 =>
  ifK (decide (n14 < (l11 : Int))) (F29.J7 call lf ro (F29.L5 call lf ro n) a11 l11 c11 v12 n13 n14 h15) (bindO (sliceO Tryd.prog 50 (.slice a11 l11 c11) (some (.int .i64 n13)) none h15) fun v564 h565 =>
  sliceK v564 fun a566 l566 c566 =>
  bindO (builtinOp Tryd.prog ro .clear [50] [.slice a566 l566 c566] h565) fun v567 h568 =>
  tupK v567 fun q569 =>
  nilK q569 <|
  bindO (sliceO Tryd.prog 50 (.slice a11 l11 c11) none (some (.int .i64 n13)) h568) fun v573 h574 =>
  sliceK v573 fun a575 l575 c575 =>
  Out.ok (.slice a575 l575 c575) h574)

noncomputable def F29.P5 (kb : (Option Addr) → Nat → Nat → Value → Int → Int → Heap → Out) (e : Env) (h : Heap) : Out :=
  getK (e.get 0) fun w0 =>
  sliceK w0 fun a576 l576 c576 =>
  getK (e.get 1) fun w1 =>
  getK (e.get 5) fun w5 =>
  intK .i64 w5 fun n577 =>
  getK (e.get 6) fun w6 =>
  intK .i64 w6 fun n578 =>
  kb a576 l576 c576 w1 n577 n578 h

noncomputable def F29.J4 (call : CT) (lf ro : Nat) (a7 : Option Addr) (l7 : Nat) (c7 : Nat) (v8 : Value) (n9 : Int) (h10 : Heap) : Out :=
  F29.L5 call lf ro lf a7 l7 c7 v8 n9 (IntKind.i64.wrap (n9 + 1)) h10

noncomputable def F29.PJ4 (kb : (Option Addr) → Nat → Nat → Value → Int → Heap → Out) (e : Env) (h : Heap) : Out :=
  getK (e.get 0) fun w0 =>
  sliceK w0 fun a579 l579 c579 =>
  getK (e.get 1) fun w1 =>
  getK (e.get 5) fun w5 =>
  intK .i64 w5 fun n580 =>
  kb a579 l579 c579 w1 n580 h

noncomputable def F29.t (call : CT) (lf ro : Nat) (ax0 : Option Addr) (lx0 : Nat) (cx0 : Nat) (x1 : Value) (h : Heap) : Out :=
  bindO (call ro 56 [.slice ax0 lx0 cx0, x1] h) fun v4 h5 =>
  intK .i64 v4 fun n6 =>
  ifK (n6 == (-1)) (Out.ok (.slice ax0 lx0 cx0) h5) (F29.J4 call lf ro ax0 lx0 cx0 x1 n6 h5)

noncomputable def F29.Ht (call : CT) (lf ro : Nat) (i : Nat) (e : Env) (h : Heap) : Out := ifK (i == 5) (F29.P5 (F29.L5 call lf ro lf) e h) (.fail)
noncomputable def F29.Ut (call : CT) (lf ro : Nat) (i : Nat) : Option (Env → Heap → Out) := ifJ (i == 4) (some (F29.PJ4 (F29.J4 call lf ro))) (none)

noncomputable def F29.H5 (call : CT) (lf ro : Nat) (kb5 : (Option Addr) → Nat → Nat → Value → Int → Int → Heap → Out) (i : Nat) (e : Env) (h : Heap) : Out := ifK (i == 5) (F29.P5 (F29.L5 call lf ro lf) e h) (.fail)
noncomputable def F29.U5 (call : CT) (lf ro : Nat) (kb5 : (Option Addr) → Nat → Nat → Value → Int → Int → Heap → Out) (i : Nat) : Option (Env → Heap → Out) := ifJ (i == 7) (some (F29.PJ7 (F29.J7 call lf ro kb5))) (ifJ (i == 4) (some (F29.PJ4 (F29.J4 call lf ro))) (none))

noncomputable def F29.C5 (call : CT) (lf ro : Nat) : COut → Out := blockK 0 (seqH Tryd.prog call ro (F29.Ht call lf ro) (F29.Ut call lf ro) (sub (codeOf Tryd.f29) [true, true, true, true]) (endK Tryd.prog Tryd.f29))

noncomputable def F29.K5 (call : CT) (lf ro : Nat) : COut → Out := blockK 0 (seqK Tryd.prog call lf ro (sub (codeOf Tryd.f29) [true, true, true, true]) (endK Tryd.prog Tryd.f29))

noncomputable def F29.CJ4 (call : CT) (lf ro : Nat) : COut → Out := endK Tryd.prog Tryd.f29

noncomputable def F29.KJ4 (call : CT) (lf ro : Nat) : COut → Out := endK Tryd.prog Tryd.f29

noncomputable def F29.CJ7 (call : CT) (lf ro : Nat) (kb5 : (Option Addr) → Nat → Nat → Value → Int → Int → Heap → Out) : COut → Out := outK (F29.P5 kb5) (fun i e h => F29.C5 call lf ro (.exit i e h)) (fun e h => F29.C5 call lf ro (.ret e h))

noncomputable def F29.KJ7 (call : CT) (lf ro : Nat) (kb5 : (Option Addr) → Nat → Nat → Value → Int → Int → Heap → Out) : COut → Out := outK (F29.P5 kb5) (fun i e h => F29.C5 call lf ro (.exit i e h)) (fun e h => F29.C5 call lf ro (.ret e h))

theorem F29.RJ7 (call : CT) (lf ro : Nat) (kb5 : (Option Addr) → Nat → Nat → Value → Int → Int → Heap → Out) (f : Nat → Option Value) (a16 : Option Addr) (l16 : Nat) (c16 : Nat) (v17 : Value) (n18 : Int) (n19 : Int) (h20 : Heap) :
    execH Tryd.prog call ro (F29.H5 call lf ro kb5) (F29.U5 call lf ro kb5) (sub (codeOf Tryd.f29) [true, true, true, false, true, false, false, true]) (EF 42 (updF (updF (updF (updF f 0 (some (.slice a16 l16 c16))) 1 (some (v17))) 5 (some (.int .i64 n18))) 6 (some (.int .i64 n19)))) h20 (F29.CJ7 call lf ro kb5) = F29.J7 call lf ro kb5 a16 l16 c16 v17 n18 n19 h20 := by kernel_rfl

theorem F29.CKJ7 (call : CT) (lf ro : Nat) (kb5 : (Option Addr) → Nat → Nat → Value → Int → Int → Heap → Out) : KLe 42 (F29.CJ7 call lf ro kb5) (F29.KJ7 call lf ro kb5) :=
  (KLe.refl _)

theorem F29.BJ7 (call : CT) (lf ro : Nat) (kb5 : (Option Addr) → Nat → Nat → Value → Int → Int → Heap → Out) : ∀ e h, Shaped 42 e → LeO (F29.PJ7 (F29.J7 call lf ro kb5) e h) (execK Tryd.prog call lf ro (sub (codeOf Tryd.f29) [true, true, true, false, true, false, false, true]) e h (F29.KJ7 call lf ro kb5)) := by
    rintro e h ⟨f, rfl⟩
    unfold F29.PJ7
    refine getK_le fun w0 g0 => ?_
    rw [EF_get (by decide)] at g0
    refine sliceK_le fun a555 l555 c555 z581 => ?_
    subst z581
    refine getK_le fun w1 g1 => ?_
    rw [EF_get (by decide)] at g1
    refine getK_le fun w5 g5 => ?_
    rw [EF_get (by decide)] at g5
    refine intK_le fun n556 z582 => ?_
    subst z582
    refine getK_le fun w6 g6 => ?_
    rw [EF_get (by decide)] at g6
    refine intK_le fun n557 z583 => ?_
    subst z583
    have hr := F29.RJ7 call lf ro kb5 f a555 l555 c555 w1 n556 n557 h
    rw [updF_same g0, updF_same g1, updF_same g5, updF_same g6] at hr
    exact cut_le (H := (F29.H5 call lf ro kb5)) (J := (F29.U5 call lf ro kb5)) (F29.CKJ7 call lf ro kb5) (hd_free rfl) hr

theorem F29.R5 (call : CT) (lf ro : Nat) (n : Nat) (f : Nat → Option Value) (a11 : Option Addr) (l11 : Nat) (c11 : Nat) (v12 : Value) (n13 : Int) (n14 : Int) (h15 : Heap) :
    execH Tryd.prog call ro (F29.H5 call lf ro (F29.L5 call lf ro n)) (F29.U5 call lf ro (F29.L5 call lf ro n)) (sub (codeOf Tryd.f29) [true, true, true, false, true, false, false]) (EF 42 (updF (updF (updF (updF f 0 (some (.slice a11 l11 c11))) 1 (some (v12))) 5 (some (.int .i64 n13))) 6 (some (.int .i64 n14)))) h15 (outK (F29.P5 (F29.L5 call lf ro n)) (fun i e h => F29.C5 call lf ro (.exit i e h)) (fun e h => F29.C5 call lf ro (.ret e h))) = F29.L5 call lf ro (n + 1) a11 l11 c11 v12 n13 n14 h15 := by kernel_rfl

theorem F29.CK5 (call : CT) (lf ro : Nat) : KLe 42 (F29.C5 call lf ro) (F29.K5 call lf ro) :=
  (KLe.block (KLe.seq (H := (F29.Ht call lf ro)) (J := (F29.Ut call lf ro)) (KLe.refl _) (hd_free rfl)))

theorem F29.B5 (call : CT) (lf ro : Nat) : ∀ n e h, Shaped 42 e → LeO (F29.P5 (F29.L5 call lf ro n) e h) (loopK (execK Tryd.prog call lf ro (sub (codeOf Tryd.f29) [true, true, true, false, true, false, false])) n e h (F29.K5 call lf ro)) := by
  refine loop_le (fun e h k k' hs hk => execK_mono _ e h k k' hs hk) (kb := fun n => F29.P5 (F29.L5 call lf ro n)) (kx := fun i e h => F29.C5 call lf ro (.exit i e h)) (kr := fun e h => F29.C5 call lf ro (.ret e h)) ?_ ?_ (fun i e h hs => (F29.CK5 call lf ro).exit i e h hs) (fun e h hs => (F29.CK5 call lf ro).ret e h hs)
  · rintro e h ⟨f, rfl⟩
    unfold F29.P5
    refine getK_le fun w0 g0 => ?_
    rw [EF_get (by decide)] at g0
    refine sliceK_le fun a576 l576 c576 z587 => ?_
    subst z587
    refine getK_le fun w1 g1 => ?_
    rw [EF_get (by decide)] at g1
    refine getK_le fun w5 g5 => ?_
    rw [EF_get (by decide)] at g5
    refine intK_le fun n577 z588 => ?_
    subst z588
    refine getK_le fun w6 g6 => ?_
    rw [EF_get (by decide)] at g6
    refine intK_le fun n578 z589 => ?_
    subst z589
    exact LeO.refl _
  · rintro n e h ⟨f, rfl⟩
    unfold F29.P5
    refine getK_le fun w0 g0 => ?_
    rw [EF_get (by decide)] at g0
    refine sliceK_le fun a576 l576 c576 z590 => ?_
    subst z590
    refine getK_le fun w1 g1 => ?_
    rw [EF_get (by decide)] at g1
    refine getK_le fun w5 g5 => ?_
    rw [EF_get (by decide)] at g5
    refine intK_le fun n577 z591 => ?_
    subst z591
    refine getK_le fun w6 g6 => ?_
    rw [EF_get (by decide)] at g6
    refine intK_le fun n578 z592 => ?_
    subst z592
    have hr := F29.R5 call lf ro n f a576 l576 c576 w1 n577 n578 h
    rw [updF_same g0, updF_same g1, updF_same g5, updF_same g6] at hr
    exact round_le (H := (F29.H5 call lf ro (F29.L5 call lf ro n))) (J := (F29.U5 call lf ro (F29.L5 call lf ro n))) ⟨(hd_free rfl), (fun e h hs => F29.BJ7 call lf ro (F29.L5 call lf ro n) e h hs)⟩ hr

theorem F29.RJ4 (call : CT) (lf ro : Nat) (f : Nat → Option Value) (a7 : Option Addr) (l7 : Nat) (c7 : Nat) (v8 : Value) (n9 : Int) (h10 : Heap) :
    execH Tryd.prog call ro (F29.Ht call lf ro) (F29.Ut call lf ro) (sub (codeOf Tryd.f29) [true, true, true]) (EF 42 (updF (updF (updF f 0 (some (.slice a7 l7 c7))) 1 (some (v8))) 5 (some (.int .i64 n9)))) h10 (F29.CJ4 call lf ro) = F29.J4 call lf ro a7 l7 c7 v8 n9 h10 := by kernel_rfl

theorem F29.CKJ4 (call : CT) (lf ro : Nat) : KLe 42 (F29.CJ4 call lf ro) (F29.KJ4 call lf ro) :=
  (KLe.refl _)

theorem F29.BJ4 (call : CT) (lf ro : Nat) : ∀ e h, Shaped 42 e → LeO (F29.PJ4 (F29.J4 call lf ro) e h) (execK Tryd.prog call lf ro (sub (codeOf Tryd.f29) [true, true, true]) e h (F29.KJ4 call lf ro)) := by
    rintro e h ⟨f, rfl⟩
    unfold F29.PJ4
    refine getK_le fun w0 g0 => ?_
    rw [EF_get (by decide)] at g0
    refine sliceK_le fun a579 l579 c579 z593 => ?_
    subst z593
    refine getK_le fun w1 g1 => ?_
    rw [EF_get (by decide)] at g1
    refine getK_le fun w5 g5 => ?_
    rw [EF_get (by decide)] at g5
    refine intK_le fun n580 z594 => ?_
    subst z594
    have hr := F29.RJ4 call lf ro f a579 l579 c579 w1 n580 h
    rw [updF_same g0, updF_same g1, updF_same g5] at hr
    exact cut_le (H := (F29.Ht call lf ro)) (J := (F29.Ut call lf ro)) (F29.CKJ4 call lf ro) ⟨⟨(hd_free rfl), (fun e h hs => F29.B5 call lf ro  lf e h hs)⟩, (hd_free rfl)⟩ hr

theorem F29.le (call : CT) (lf ro : Nat) (ax0 : Option Addr) (lx0 : Nat) (cx0 : Nat) (x1 : Value) (h : Heap) : LeO (F29.t call lf ro ax0 lx0 cx0 x1 h) (bodyK Tryd.prog call lf ro Tryd.f29 [.slice ax0 lx0 cx0, x1] h) :=
  body_le (c := codeOf Tryd.f29) (H := F29.Ht call lf ro) (J := F29.Ut call lf ro) rfl (Nat.le_of_ble_eq_true rfl) ⟨(hd_free rfl), ⟨(hd_free rfl), ⟨(hd_free rfl), (fun e h hs => F29.BJ4 call lf ro  e h hs)⟩⟩⟩ (by kernel_rfl)

/-! ### barscan/aztext.Encode$1: function 30 -/

noncomputable def F30.t (call : CT) (lf ro : Nat) (ax0_0 : Option Addr) (lx0_0 : Nat) (cx0_0 : Nat) (ax0_1 : Option Addr) (lx0_1 : Nat) (cx0_1 : Nat) (x0_2 : Int) (x0_3 : Int) (x0_4 : Int) (y0 : Value) (y1 : Value) (h : Heap) : Out :=
  pushJ h 1 [.slice ax0_0 lx0_0 cx0_0, .slice ax0_1 lx0_1 cx0_1, .int .i64 x0_2, .int .i64 x0_3, .int .i64 x0_4] fun h2 =>
  bindN (loadO Tryd.prog 53 (.pointer (some ⟨h.next, 0, none⟩)) h2) fun v64 h65 =>
  aggK v64 fun q66 =>
  consK q66 fun x67 q68 =>
  sliceK x67 fun a69 l69 c69 =>
  consK q68 fun x70 q71 =>
  sliceK x70 fun a72 l72 c72 =>
  consK q71 fun x73 q74 =>
  intK .i64 x73 fun n75 =>
  consK q74 fun x76 q77 =>
  intK .i64 x76 fun n78 =>
  consK q77 fun x79 q80 =>
  intK .i64 x79 fun n81 =>
  nilK q80 <|
  bindN (call h65.next 31 [.agg #[.slice a69 l69 c69, .slice a72 l72 c72, .int .i64 n75, .int .i64 n78, .int .i64 n81]] h65) fun v82 h83 =>
  intK .i64 v82 fun n84 =>
  bindN (loadO Tryd.prog 46 y0 h83) fun v85 h86 =>
  bindN (nilO Tryd.prog v85 h86) fun v87 h88 =>
  bindN (faddrO Tryd.prog 61 v87 2 h88) fun v89 h90 =>
  bindN (loadO Tryd.prog 59 v89 h90) fun v91 h92 =>
  bindN (loadO Tryd.prog 49 (.pointer (some ⟨h.next, 3, none⟩)) h92) fun v93 h94 =>
  aggK v93 fun q95 =>
  consK q95 fun x96 q97 =>
  intK .i64 x96 fun n98 =>
  consK q97 fun x99 q100 =>
  intK .i64 x99 fun n101 =>
  nilK q100 <|
  bindN (lookupOp Tryd.prog 59 v91 (.agg #[.int .i64 n98, .int .i64 n101]) false h94) fun v102 h103 =>
  intK .i64 v102 fun n104 =>
  bindN (loadO Tryd.prog 46 y0 h103) fun v105 h106 =>
  bindN (nilO Tryd.prog v105 h106) fun v107 h108 =>
  bindN (faddrO Tryd.prog 61 v107 2 h108) fun v109 h110 =>
  bindN (loadO Tryd.prog 59 v109 h110) fun v111 h112 =>
  bindN (loadO Tryd.prog 49 y1 h112) fun v113 h114 =>
  aggK v113 fun q115 =>
  consK q115 fun x116 q117 =>
  intK .i64 x116 fun n118 =>
  consK q117 fun x119 q120 =>
  intK .i64 x119 fun n121 =>
  nilK q120 <|
  bindN (lookupOp Tryd.prog 59 v111 (.agg #[.int .i64 n118, .int .i64 n121]) false h114) fun v122 h123 =>
  intK .i64 v122 fun n124 =>
  Out.ok (.bool ((IntKind.i64.wrap (n84 + n104)) != n124)) h123

noncomputable def F30.Ht (call : CT) (lf ro : Nat) (i : Nat) (e : Env) (h : Heap) : Out := .fail
noncomputable def F30.Ut (call : CT) (lf ro : Nat) (i : Nat) : Option (Env → Heap → Out) := none

theorem F30.le (call : CT) (lf ro : Nat) (ax0_0 : Option Addr) (lx0_0 : Nat) (cx0_0 : Nat) (ax0_1 : Option Addr) (lx0_1 : Nat) (cx0_1 : Nat) (x0_2 : Int) (x0_3 : Int) (x0_4 : Int) (y0 : Value) (y1 : Value) (h : Heap) : LeO (F30.t call lf ro ax0_0 lx0_0 cx0_0 ax0_1 lx0_1 cx0_1 x0_2 x0_3 x0_4 y0 y1 h) (bodyK Tryd.prog call lf ro Tryd.f30 [.agg #[.slice ax0_0 lx0_0 cx0_0, .slice ax0_1 lx0_1 cx0_1, .int .i64 x0_2, .int .i64 x0_3, .int .i64 x0_4], y0, y1] h) :=
  body_le (c := codeOf Tryd.f30) (H := F30.Ht call lf ro) (J := F30.Ut call lf ro) rfl (Nat.le_of_ble_eq_true rfl) (hd_free rfl) (by kernel_rfl)

/-! ### (barscan/aztext.edge).cost: function 31 -/

noncomputable def F31.L3 (call : CT) (lf ro : Nat) : Nat → Int → (Option Addr) → Nat → Nat → Int → Int → Heap → Out
  | 0, _, _, _, _, _, _, _ => .fail
  | n + 1, n15, a16, l16, c16, n17, n18, h19 =>
  letJ ((Out.ok (.int .i64 n15) h19)) fun j40 =>
  ifK (decide (n18 < n17)) (bindO (idxO Tryd.prog 35 (.slice a16 l16 c16) (.int .i64 n18) h19) fun v56 h57 =>
  bindO (loadO Tryd.prog 3 v56 h57) fun v58 h59 =>
  intK .i64 v58 fun n60 =>
  F31.L3 call lf ro n (IntKind.i64.wrap (n15 + n60)) a16 l16 c16 n17 (IntKind.i64.wrap (n18 + 1)) h59) (j40)

noncomputable def F31.P3 (kb : Int → (Option Addr) → Nat → Nat → Int → Int → Heap → Out) (e : Env) (h : Heap) : Out :=
  getK (e.get 3) fun w3 =>
  intK .i64 w3 fun n61 =>
  getK (e.get 10) fun w10 =>
  sliceK w10 fun a62 l62 c62 =>
  getK (e.get 11) fun w11 =>
  intK .i64 w11 fun n63 =>
  getK (e.get 12) fun w12 =>
  intK .i64 w12 fun n64 =>
  kb n61 a62 l62 c62 n63 n64 h

noncomputable def F31.t (call : CT) (lf ro : Nat) (ax0_0 : Option Addr) (lx0_0 : Nat) (cx0_0 : Nat) (ax0_1 : Option Addr) (lx0_1 : Nat) (cx0_1 : Nat) (x0_2 : Int) (x0_3 : Int) (x0_4 : Int) (h : Heap) : Out :=
  pushJ h 1 [.slice ax0_0 lx0_0 cx0_0, .slice ax0_1 lx0_1 cx0_1, .int .i64 x0_2, .int .i64 x0_3, .int .i64 x0_4] fun h2 =>
  bindO (loadO Tryd.prog 3 (.pointer (some ⟨h.next, 2, none⟩)) h2) fun v6 h7 =>
  intK .i64 v6 fun n8 =>
  bindO (loadO Tryd.prog 35 (.pointer (some ⟨h.next, 1, none⟩)) h7) fun v12 h13 =>
  sliceK v12 fun a14 l14 c14 =>
  F31.L3 call lf ro lf (IntKind.i64.wrap (8 * n8)) a14 l14 c14 (l14 : Int) 0 h13

noncomputable def F31.Ht (call : CT) (lf ro : Nat) (i : Nat) (e : Env) (h : Heap) : Out := ifK (i == 3) (F31.P3 (F31.L3 call lf ro lf) e h) (.fail)
noncomputable def F31.Ut (call : CT) (lf ro : Nat) (i : Nat) : Option (Env → Heap → Out) := none

noncomputable def F31.H3 (call : CT) (lf ro : Nat) (kb3 : Int → (Option Addr) → Nat → Nat → Int → Int → Heap → Out) (i : Nat) (e : Env) (h : Heap) : Out := ifK (i == 3) (F31.P3 (F31.L3 call lf ro lf) e h) (.fail)
noncomputable def F31.U3 (call : CT) (lf ro : Nat) (kb3 : Int → (Option Addr) → Nat → Nat → Int → Int → Heap → Out) (i : Nat) : Option (Env → Heap → Out) := none

noncomputable def F31.C3 (call : CT) (lf ro : Nat) : COut → Out := blockK 0 (seqH Tryd.prog call ro (F31.Ht call lf ro) (F31.Ut call lf ro) (sub (codeOf Tryd.f31) [true, true, true]) (endK Tryd.prog Tryd.f31))

noncomputable def F31.K3 (call : CT) (lf ro : Nat) : COut → Out := blockK 0 (seqK Tryd.prog call lf ro (sub (codeOf Tryd.f31) [true, true, true]) (endK Tryd.prog Tryd.f31))

theorem F31.R3 (call : CT) (lf ro : Nat) (n : Nat) (f : Nat → Option Value) (n15 : Int) (a16 : Option Addr) (l16 : Nat) (c16 : Nat) (n17 : Int) (n18 : Int) (h19 : Heap) :
    execH Tryd.prog call ro (F31.H3 call lf ro (F31.L3 call lf ro n)) (F31.U3 call lf ro (F31.L3 call lf ro n)) (sub (codeOf Tryd.f31) [true, true, false, true, false, false]) (EF 21 (updF (updF (updF (updF f 3 (some (.int .i64 n15))) 10 (some (.slice a16 l16 c16))) 11 (some (.int .i64 n17))) 12 (some (.int .i64 n18)))) h19 (outK (F31.P3 (F31.L3 call lf ro n)) (fun i e h => F31.C3 call lf ro (.exit i e h)) (fun e h => F31.C3 call lf ro (.ret e h))) = F31.L3 call lf ro (n + 1) n15 a16 l16 c16 n17 n18 h19 := by kernel_rfl

theorem F31.CK3 (call : CT) (lf ro : Nat) : KLe 21 (F31.C3 call lf ro) (F31.K3 call lf ro) :=
  (KLe.block (KLe.seq (H := (F31.Ht call lf ro)) (J := (F31.Ut call lf ro)) (KLe.refl _) (hd_free rfl)))

theorem F31.B3 (call : CT) (lf ro : Nat) : ∀ n e h, Shaped 21 e → LeO (F31.P3 (F31.L3 call lf ro n) e h) (loopK (execK Tryd.prog call lf ro (sub (codeOf Tryd.f31) [true, true, false, true, false, false])) n e h (F31.K3 call lf ro)) := by
  refine loop_le (fun e h k k' hs hk => execK_mono _ e h k k' hs hk) (kb := fun n => F31.P3 (F31.L3 call lf ro n)) (kx := fun i e h => F31.C3 call lf ro (.exit i e h)) (kr := fun e h => F31.C3 call lf ro (.ret e h)) ?_ ?_ (fun i e h hs => (F31.CK3 call lf ro).exit i e h hs) (fun e h hs => (F31.CK3 call lf ro).ret e h hs)
  · rintro e h ⟨f, rfl⟩
    unfold F31.P3
    refine getK_le fun w3 g3 => ?_
    rw [EF_get (by decide)] at g3
    refine intK_le fun n61 z65 => ?_
    subst z65
    refine getK_le fun w10 g10 => ?_
    rw [EF_get (by decide)] at g10
    refine sliceK_le fun a62 l62 c62 z66 => ?_
    subst z66
    refine getK_le fun w11 g11 => ?_
    rw [EF_get (by decide)] at g11
    refine intK_le fun n63 z67 => ?_
    subst z67
    refine getK_le fun w12 g12 => ?_
    rw [EF_get (by decide)] at g12
    refine intK_le fun n64 z68 => ?_
    subst z68
    exact LeO.refl _
  · rintro n e h ⟨f, rfl⟩
    unfold F31.P3
    refine getK_le fun w3 g3 => ?_
    rw [EF_get (by decide)] at g3
    refine intK_le fun n61 z69 => ?_
    subst z69
    refine getK_le fun w10 g10 => ?_
    rw [EF_get (by decide)] at g10
    refine sliceK_le fun a62 l62 c62 z70 => ?_
    subst z70
    refine getK_le fun w11 g11 => ?_
    rw [EF_get (by decide)] at g11
    refine intK_le fun n63 z71 => ?_
    subst z71
    refine getK_le fun w12 g12 => ?_
    rw [EF_get (by decide)] at g12
    refine intK_le fun n64 z72 => ?_
    subst z72
    have hr := F31.R3 call lf ro n f n61 a62 l62 c62 n63 n64 h
    rw [updF_same g3, updF_same g10, updF_same g11, updF_same g12] at hr
    exact round_le (H := (F31.H3 call lf ro (F31.L3 call lf ro n))) (J := (F31.U3 call lf ro (F31.L3 call lf ro n))) (hd_free rfl) hr

theorem F31.le (call : CT) (lf ro : Nat) (ax0_0 : Option Addr) (lx0_0 : Nat) (cx0_0 : Nat) (ax0_1 : Option Addr) (lx0_1 : Nat) (cx0_1 : Nat) (x0_2 : Int) (x0_3 : Int) (x0_4 : Int) (h : Heap) : LeO (F31.t call lf ro ax0_0 lx0_0 cx0_0 ax0_1 lx0_1 cx0_1 x0_2 x0_3 x0_4 h) (bodyK Tryd.prog call lf ro Tryd.f31 [.agg #[.slice ax0_0 lx0_0 cx0_0, .slice ax0_1 lx0_1 cx0_1, .int .i64 x0_2, .int .i64 x0_3, .int .i64 x0_4]] h) :=
  body_le (c := codeOf Tryd.f31) (H := F31.Ht call lf ro) (J := F31.Ut call lf ro) rfl (Nat.le_of_ble_eq_true rfl) ⟨(hd_free rfl), ⟨(hd_free rfl), ⟨⟨(hd_free rfl), (fun e h hs => F31.B3 call lf ro  lf e h hs)⟩, (hd_free rfl)⟩⟩⟩ (by kernel_rfl)

/-! ### slices.MinFunc[[]barscan/aztext.edge,barscan/aztext.edge]: function 32 -/

noncomputable def F32.J7 (call : CT) (lf ro : Nat) (kb5 : (Option Addr) → Nat → Nat → Value → Nat → Nat → Nat → Nat → Int → Heap → Out) (a59 : Option Addr) (l59 : Nat) (c59 : Nat) (v60 : Value) (p61 : Nat) (o61 : Nat) (p62 : Nat) (o62 : Nat) (n63 : Int) (h64 : Heap) : Out :=
  letJ (fun (h379 : Heap) =>
  (kb5 a59 l59 c59 v60 p61 o61 p62 o62 (IntKind.i64.wrap (n63 + 1)) h379)) fun j380 =>
  bindN (idxO Tryd.prog 50 (.slice a59 l59 c59) (.int .i64 n63) h64) fun v422 h423 =>
  bindN (loadO Tryd.prog 53 v422 h423) fun v424 h425 =>
  aggK v424 fun q426 =>
  consK q426 fun x427 q428 =>
  sliceK x427 fun a429 l429 c429 =>
  consK q428 fun x430 q431 =>
  sliceK x430 fun a432 l432 c432 =>
  consK q431 fun x433 q434 =>
  intK .i64 x433 fun n435 =>
  consK q434 fun x436 q437 =>
  intK .i64 x436 fun n438 =>
  consK q437 fun x439 q440 =>
  intK .i64 x439 fun n441 =>
  nilK q440 <|
  bindN (loadO Tryd.prog 53 (.pointer (some ⟨p62, o62, none⟩)) h425) fun v442 h443 =>
  aggK v442 fun q444 =>
  consK q444 fun x445 q446 =>
  sliceK x445 fun a447 l447 c447 =>
  consK q446 fun x448 q449 =>
  sliceK x448 fun a450 l450 c450 =>
  consK q449 fun x451 q452 =>
  intK .i64 x451 fun n453 =>
  consK q452 fun x454 q455 =>
  intK .i64 x454 fun n456 =>
  consK q455 fun x457 q458 =>
  intK .i64 x457 fun n459 =>
  nilK q458 <|
  bindO (callFO Tryd.prog call ro v60 [.agg #[.slice a429 l429 c429, .slice a432 l432 c432, .int .i64 n435, .int .i64 n438, .int .i64 n441], .agg #[.slice a447 l447 c447, .slice a450 l450 c450, .int .i64 n453, .int .i64 n456, .int .i64 n459]] h443) fun v460 h461 =>
  intK .i64 v460 fun n462 =>
  ifK (decide (n462 < 0)) (bindO (idxO Tryd.prog 50 (.slice a59 l59 c59) (.int .i64 n63) h461) fun v463 h464 =>
  bindO (loadO Tryd.prog 53 v463 h464) fun v465 h466 =>
  aggK v465 fun q467 =>
  consK q467 fun x468 q469 =>
  sliceK x468 fun a470 l470 c470 =>
  consK q469 fun x471 q472 =>
  sliceK x471 fun a473 l473 c473 =>
  consK q472 fun x474 q475 =>
  intK .i64 x474 fun n476 =>
  consK q475 fun x477 q478 =>
  intK .i64 x477 fun n479 =>
  consK q478 fun x480 q481 =>
  intK .i64 x480 fun n482 =>
  nilK q481 <|
  bindO (storeO Tryd.prog ro 53 (.pointer (some ⟨p62, o62, none⟩)) (.agg #[.slice a470 l470 c470, .slice a473 l473 c473, .int .i64 n476, .int .i64 n479, .int .i64 n482]) h466) fun v483 h484 =>
  j380 h484) (j380 h461)

noncomputable def F32.PJ7 (kb : (Option Addr) → Nat → Nat → Value → Nat → Nat → Nat → Nat → Int → Heap → Out) (e : Env) (h : Heap) : Out :=
  getK (e.get 0) fun w0 =>
  sliceK w0 fun a485 l485 c485 =>
  getK (e.get 1) fun w1 =>
  getK (e.get 4) fun w4 =>
  ptrK w4 fun p486 o486 =>
  getK (e.get 5) fun w5 =>
  ptrK w5 fun p487 o487 =>
  getK (e.get 6) fun w6 =>
  intK .i64 w6 fun n488 =>
  kb a485 l485 c485 w1 p486 o486 p487 o487 n488 h

noncomputable def F32.L5 (call : CT) (lf ro : Nat) : Nat → (Option Addr) → Nat → Nat → Value → Nat → Nat → Nat → Nat → Int → Heap → Out
  | 0, _, _, _, _, _, _, _, _, _, _ => .fail
  | n + 1, a53, l53, c53, v54, p55, o55, p56, o56, n57, h58 =>
  ifK (decide (n57 < (l53 : Int))) (F32.J7 call lf ro (F32.L5 call lf ro n) a53 l53 c53 v54 p55 o55 p56 o56 n57 h58) (bindO (loadO Tryd.prog 53 (.pointer (some ⟨p56, o56, none⟩)) h58) fun v509 h510 =>
  aggK v509 fun q511 =>
  consK q511 fun x512 q513 =>
  sliceK x512 fun a514 l514 c514 =>
  consK q513 fun x515 q516 =>
  sliceK x515 fun a517 l517 c517 =>
  consK q516 fun x518 q519 =>
  intK .i64 x518 fun n520 =>
  consK q519 fun x521 q522 =>
  intK .i64 x521 fun n523 =>
  consK q522 fun x524 q525 =>
  intK .i64 x524 fun n526 =>
  nilK q525 <|
  bindO (storeO Tryd.prog ro 53 (.pointer (some ⟨p55, o55, none⟩)) (.agg #[.slice a514 l514 c514, .slice a517 l517 c517, .int .i64 n520, .int .i64 n523, .int .i64 n526]) h510) fun v527 h528 =>
  resOf Tryd.prog Tryd.f32 (EF 33 (updF (fun _ => none) 4 (some (.pointer (some ⟨p55, o55, none⟩))))) h528)

noncomputable def F32.P5 (kb : (Option Addr) → Nat → Nat → Value → Nat → Nat → Nat → Nat → Int → Heap → Out) (e : Env) (h : Heap) : Out :=
  getK (e.get 0) fun w0 =>
  sliceK w0 fun a529 l529 c529 =>
  getK (e.get 1) fun w1 =>
  getK (e.get 4) fun w4 =>
  ptrK w4 fun p530 o530 =>
  getK (e.get 5) fun w5 =>
  ptrK w5 fun p531 o531 =>
  getK (e.get 6) fun w6 =>
  intK .i64 w6 fun n532 =>
  kb a529 l529 c529 w1 p530 o530 p531 o531 n532 h

noncomputable def F32.J3 (call : CT) (lf ro : Nat) (a3 : Option Addr) (l3 : Nat) (c3 : Nat) (v4 : Value) (p5 : Nat) (o5 : Nat) (h6 : Heap) : Out :=
  bindO (idxO Tryd.prog 50 (.slice a3 l3 c3) (.int .i64 0) h6) fun v30 h31 =>
  bindO (loadO Tryd.prog 53 v30 h31) fun v32 h33 =>
  aggK v32 fun q34 =>
  consK q34 fun x35 q36 =>
  sliceK x35 fun a37 l37 c37 =>
  consK q36 fun x38 q39 =>
  sliceK x38 fun a40 l40 c40 =>
  consK q39 fun x41 q42 =>
  intK .i64 x41 fun n43 =>
  consK q42 fun x44 q45 =>
  intK .i64 x44 fun n46 =>
  consK q45 fun x47 q48 =>
  intK .i64 x47 fun n49 =>
  nilK q48 <|
  pushJ h33 1 [.slice none 0 0, .slice none 0 0, .int .i64 0, .int .i64 0, .int .i64 0] fun h50 =>
  bindO (storeO Tryd.prog ro 53 (.pointer (some ⟨h33.next, 0, none⟩)) (.agg #[.slice a37 l37 c37, .slice a40 l40 c40, .int .i64 n43, .int .i64 n46, .int .i64 n49]) h50) fun v51 h52 =>
  F32.L5 call lf ro lf a3 l3 c3 v4 p5 o5 h33.next 0 1 h52

noncomputable def F32.PJ3 (kb : (Option Addr) → Nat → Nat → Value → Nat → Nat → Heap → Out) (e : Env) (h : Heap) : Out :=
  getK (e.get 0) fun w0 =>
  sliceK w0 fun a533 l533 c533 =>
  getK (e.get 1) fun w1 =>
  getK (e.get 4) fun w4 =>
  ptrK w4 fun p534 o534 =>
  kb a533 l533 c533 w1 p534 o534 h

noncomputable def F32.t (call : CT) (lf ro : Nat) (ax0 : Option Addr) (lx0 : Nat) (cx0 : Nat) (x1 : Value) (h : Heap) : Out :=
  pushJ h 1 [.slice none 0 0, .slice none 0 0, .int .i64 0, .int .i64 0, .int .i64 0] fun h2 =>
  ifK (decide ((lx0 : Int) < 1)) (Out.panic (.iface 9 (.string wblit1)) h2) (F32.J3 call lf ro ax0 lx0 cx0 x1 h.next 0 h2)

noncomputable def F32.Ht (call : CT) (lf ro : Nat) (i : Nat) (e : Env) (h : Heap) : Out := ifK (i == 5) (F32.P5 (F32.L5 call lf ro lf) e h) (.fail)
noncomputable def F32.Ut (call : CT) (lf ro : Nat) (i : Nat) : Option (Env → Heap → Out) := ifJ (i == 3) (some (F32.PJ3 (F32.J3 call lf ro))) (none)

noncomputable def F32.H5 (call : CT) (lf ro : Nat) (kb5 : (Option Addr) → Nat → Nat → Value → Nat → Nat → Nat → Nat → Int → Heap → Out) (i : Nat) (e : Env) (h : Heap) : Out := ifK (i == 5) (F32.P5 (F32.L5 call lf ro lf) e h) (.fail)
noncomputable def F32.U5 (call : CT) (lf ro : Nat) (kb5 : (Option Addr) → Nat → Nat → Value → Nat → Nat → Nat → Nat → Int → Heap → Out) (i : Nat) : Option (Env → Heap → Out) := ifJ (i == 7) (some (F32.PJ7 (F32.J7 call lf ro kb5))) (ifJ (i == 3) (some (F32.PJ3 (F32.J3 call lf ro))) (none))

noncomputable def F32.C5 (call : CT) (lf ro : Nat) : COut → Out := blockK 0 (seqH Tryd.prog call ro (F32.Ht call lf ro) (F32.Ut call lf ro) (sub (codeOf Tryd.f32) [true, true, true, true]) (endK Tryd.prog Tryd.f32))

noncomputable def F32.K5 (call : CT) (lf ro : Nat) : COut → Out := blockK 0 (seqK Tryd.prog call lf ro (sub (codeOf Tryd.f32) [true, true, true, true]) (endK Tryd.prog Tryd.f32))

noncomputable def F32.CJ3 (call : CT) (lf ro : Nat) : COut → Out := endK Tryd.prog Tryd.f32

noncomputable def F32.KJ3 (call : CT) (lf ro : Nat) : COut → Out := endK Tryd.prog Tryd.f32

noncomputable def F32.CJ7 (call : CT) (lf ro : Nat) (kb5 : (Option Addr) → Nat → Nat → Value → Nat → Nat → Nat → Nat → Int → Heap → Out) : COut → Out := outK (F32.P5 kb5) (fun i e h => F32.C5 call lf ro (.exit i e h)) (fun e h => F32.C5 call lf ro (.ret e h))

noncomputable def F32.KJ7 (call : CT) (lf ro : Nat) (kb5 : (Option Addr) → Nat → Nat → Value → Nat → Nat → Nat → Nat → Int → Heap → Out) : COut → Out := outK (F32.P5 kb5) (fun i e h => F32.C5 call lf ro (.exit i e h)) (fun e h => F32.C5 call lf ro (.ret e h))

theorem F32.RJ7 (call : CT) (lf ro : Nat) (kb5 : (Option Addr) → Nat → Nat → Value → Nat → Nat → Nat → Nat → Int → Heap → Out) (f : Nat → Option Value) (a59 : Option Addr) (l59 : Nat) (c59 : Nat) (v60 : Value) (p61 : Nat) (o61 : Nat) (p62 : Nat) (o62 : Nat) (n63 : Int) (h64 : Heap) :
    execH Tryd.prog call ro (F32.H5 call lf ro kb5) (F32.U5 call lf ro kb5) (sub (codeOf Tryd.f32) [true, true, true, false, true, false, false, true]) (EF 33 (updF (updF (updF (updF (updF f 0 (some (.slice a59 l59 c59))) 1 (some (v60))) 4 (some (.pointer (some ⟨p61, o61, none⟩)))) 5 (some (.pointer (some ⟨p62, o62, none⟩)))) 6 (some (.int .i64 n63)))) h64 (F32.CJ7 call lf ro kb5) = F32.J7 call lf ro kb5 a59 l59 c59 v60 p61 o61 p62 o62 n63 h64 := by kernel_rfl

theorem F32.CKJ7 (call : CT) (lf ro : Nat) (kb5 : (Option Addr) → Nat → Nat → Value → Nat → Nat → Nat → Nat → Int → Heap → Out) : KLe 33 (F32.CJ7 call lf ro kb5) (F32.KJ7 call lf ro kb5) :=
  (KLe.refl _)

theorem F32.BJ7 (call : CT) (lf ro : Nat) (kb5 : (Option Addr) → Nat → Nat → Value → Nat → Nat → Nat → Nat → Int → Heap → Out) : ∀ e h, Shaped 33 e → LeO (F32.PJ7 (F32.J7 call lf ro kb5) e h) (execK Tryd.prog call lf ro (sub (codeOf Tryd.f32) [true, true, true, false, true, false, false, true]) e h (F32.KJ7 call lf ro kb5)) := by
    rintro e h ⟨f, rfl⟩
    unfold F32.PJ7
    refine getK_le fun w0 g0 => ?_
    rw [EF_get (by decide)] at g0
    refine sliceK_le fun a485 l485 c485 z535 => ?_
    subst z535
    refine getK_le fun w1 g1 => ?_
    rw [EF_get (by decide)] at g1
    refine getK_le fun w4 g4 => ?_
    rw [EF_get (by decide)] at g4
    refine ptrK_le fun p486 o486 z536 => ?_
    subst z536
    refine getK_le fun w5 g5 => ?_
    rw [EF_get (by decide)] at g5
    refine ptrK_le fun p487 o487 z537 => ?_
    subst z537
    refine getK_le fun w6 g6 => ?_
    rw [EF_get (by decide)] at g6
    refine intK_le fun n488 z538 => ?_
    subst z538
    have hr := F32.RJ7 call lf ro kb5 f a485 l485 c485 w1 p486 o486 p487 o487 n488 h
    rw [updF_same g0, updF_same g1, updF_same g4, updF_same g5, updF_same g6] at hr
    exact cut_le (H := (F32.H5 call lf ro kb5)) (J := (F32.U5 call lf ro kb5)) (F32.CKJ7 call lf ro kb5) (hd_free rfl) hr

theorem F32.R5 (call : CT) (lf ro : Nat) (n : Nat) (f : Nat → Option Value) (a53 : Option Addr) (l53 : Nat) (c53 : Nat) (v54 : Value) (p55 : Nat) (o55 : Nat) (p56 : Nat) (o56 : Nat) (n57 : Int) (h58 : Heap) :
    execH Tryd.prog call ro (F32.H5 call lf ro (F32.L5 call lf ro n)) (F32.U5 call lf ro (F32.L5 call lf ro n)) (sub (codeOf Tryd.f32) [true, true, true, false, true, false, false]) (EF 33 (updF (updF (updF (updF (updF f 0 (some (.slice a53 l53 c53))) 1 (some (v54))) 4 (some (.pointer (some ⟨p55, o55, none⟩)))) 5 (some (.pointer (some ⟨p56, o56, none⟩)))) 6 (some (.int .i64 n57)))) h58 (outK (F32.P5 (F32.L5 call lf ro n)) (fun i e h => F32.C5 call lf ro (.exit i e h)) (fun e h => F32.C5 call lf ro (.ret e h))) = F32.L5 call lf ro (n + 1) a53 l53 c53 v54 p55 o55 p56 o56 n57 h58 := by kernel_rfl

theorem F32.CK5 (call : CT) (lf ro : Nat) : KLe 33 (F32.C5 call lf ro) (F32.K5 call lf ro) :=
  (KLe.block (KLe.seq (H := (F32.Ht call lf ro)) (J := (F32.Ut call lf ro)) (KLe.refl _) (hd_free rfl)))

theorem F32.B5 (call : CT) (lf ro : Nat) : ∀ n e h, Shaped 33 e → LeO (F32.P5 (F32.L5 call lf ro n) e h) (loopK (execK Tryd.prog call lf ro (sub (codeOf Tryd.f32) [true, true, true, false, true, false, false])) n e h (F32.K5 call lf ro)) := by
  refine loop_le (fun e h k k' hs hk => execK_mono _ e h k k' hs hk) (kb := fun n => F32.P5 (F32.L5 call lf ro n)) (kx := fun i e h => F32.C5 call lf ro (.exit i e h)) (kr := fun e h => F32.C5 call lf ro (.ret e h)) ?_ ?_ (fun i e h hs => (F32.CK5 call lf ro).exit i e h hs) (fun e h hs => (F32.CK5 call lf ro).ret e h hs)
  · rintro e h ⟨f, rfl⟩
    unfold F32.P5
    refine getK_le fun w0 g0 => ?_
    rw [EF_get (by decide)] at g0
    refine sliceK_le fun a529 l529 c529 z543 => ?_
    subst z543
    refine getK_le fun w1 g1 => ?_
    rw [EF_get (by decide)] at g1
    refine getK_le fun w4 g4 => ?_
    rw [EF_get (by decide)] at g4
    refine ptrK_le fun p530 o530 z544 => ?_
    subst z544
    refine getK_le fun w5 g5 => ?_
    rw [EF_get (by decide)] at g5
    refine ptrK_le fun p531 o531 z545 => ?_
    subst z545
    refine getK_le fun w6 g6 => ?_
    rw [EF_get (by decide)] at g6
    refine intK_le fun n532 z546 => ?_
    subst z546
    exact LeO.refl _
  · rintro n e h ⟨f, rfl⟩
    unfold F32.P5
    refine getK_le fun w0 g0 => ?_
    rw [EF_get (by decide)] at g0
    refine sliceK_le fun a529 l529 c529 z547 => ?_
    subst z547
    refine getK_le fun w1 g1 => ?_
    rw [EF_get (by decide)] at g1
    refine getK_le fun w4 g4 => ?_
    rw [EF_get (by decide)] at g4
    refine ptrK_le fun p530 o530 z548 => ?_
    subst z548
    refine getK_le fun w5 g5 => ?_
    rw [EF_get (by decide)] at g5
    refine ptrK_le fun p531 o531 z549 => ?_
    subst z549
    refine getK_le fun w6 g6 => ?_
    rw [EF_get (by decide)] at g6
    refine intK_le fun n532 z550 => ?_
    subst z550
    have hr := F32.R5 call lf ro n f a529 l529 c529 w1 p530 o530 p531 o531 n532 h
    rw [updF_same g0, updF_same g1, updF_same g4, updF_same g5, updF_same g6] at hr
    exact round_le (H := (F32.H5 call lf ro (F32.L5 call lf ro n))) (J := (F32.U5 call lf ro (F32.L5 call lf ro n))) ⟨(hd_free rfl), (fun e h hs => F32.BJ7 call lf ro (F32.L5 call lf ro n) e h hs)⟩ hr

theorem F32.RJ3 (call : CT) (lf ro : Nat) (f : Nat → Option Value) (a3 : Option Addr) (l3 : Nat) (c3 : Nat) (v4 : Value) (p5 : Nat) (o5 : Nat) (h6 : Heap) :
    execH Tryd.prog call ro (F32.Ht call lf ro) (F32.Ut call lf ro) (sub (codeOf Tryd.f32) [true, true]) (EF 33 (updF (updF (updF f 0 (some (.slice a3 l3 c3))) 1 (some (v4))) 4 (some (.pointer (some ⟨p5, o5, none⟩))))) h6 (F32.CJ3 call lf ro) = F32.J3 call lf ro a3 l3 c3 v4 p5 o5 h6 := by kernel_rfl

theorem F32.CKJ3 (call : CT) (lf ro : Nat) : KLe 33 (F32.CJ3 call lf ro) (F32.KJ3 call lf ro) :=
  (KLe.refl _)

theorem F32.BJ3 (call : CT) (lf ro : Nat) : ∀ e h, Shaped 33 e → LeO (F32.PJ3 (F32.J3 call lf ro) e h) (execK Tryd.prog call lf ro (sub (codeOf Tryd.f32) [true, true]) e h (F32.KJ3 call lf ro)) := by
    rintro e h ⟨f, rfl⟩
    unfold F32.PJ3
    refine getK_le fun w0 g0 => ?_
    rw [EF_get (by decide)] at g0
    refine sliceK_le fun a533 l533 c533 z551 => ?_
    subst z551
    refine getK_le fun w1 g1 => ?_
    rw [EF_get (by decide)] at g1
    refine getK_le fun w4 g4 => ?_
    rw [EF_get (by decide)] at g4
    refine ptrK_le fun p534 o534 z552 => ?_
    subst z552
    have hr := F32.RJ3 call lf ro f a533 l533 c533 w1 p534 o534 h
    rw [updF_same g0, updF_same g1, updF_same g4] at hr
    exact cut_le (H := (F32.Ht call lf ro)) (J := (F32.Ut call lf ro)) (F32.CKJ3 call lf ro) ⟨(hd_free rfl), ⟨⟨(hd_free rfl), (fun e h hs => F32.B5 call lf ro  lf e h hs)⟩, (hd_free rfl)⟩⟩ hr

theorem F32.le (call : CT) (lf ro : Nat) (ax0 : Option Addr) (lx0 : Nat) (cx0 : Nat) (x1 : Value) (h : Heap) : LeO (F32.t call lf ro ax0 lx0 cx0 x1 h) (bodyK Tryd.prog call lf ro Tryd.f32 [.slice ax0 lx0 cx0, x1] h) :=
  body_le (c := codeOf Tryd.f32) (H := F32.Ht call lf ro) (J := F32.Ut call lf ro) rfl (Nat.le_of_ble_eq_true rfl) ⟨(hd_free rfl), ⟨(hd_free rfl), (fun e h hs => F32.BJ3 call lf ro  e h hs)⟩⟩ (by kernel_rfl)

/-! ### barscan/aztext.Encode$2: function 33 -/

noncomputable def F33.t (call : CT) (lf ro : Nat) (ax0_0 : Option Addr) (lx0_0 : Nat) (cx0_0 : Nat) (ax0_1 : Option Addr) (lx0_1 : Nat) (cx0_1 : Nat) (x0_2 : Int) (x0_3 : Int) (x0_4 : Int) (ax1_0 : Option Addr) (lx1_0 : Nat) (cx1_0 : Nat) (ax1_1 : Option Addr) (lx1_1 : Nat) (cx1_1 : Nat) (x1_2 : Int) (x1_3 : Int) (x1_4 : Int) (h : Heap) : Out :=
  pushJ h 1 [.slice ax0_0 lx0_0 cx0_0, .slice ax0_1 lx0_1 cx0_1, .int .i64 x0_2, .int .i64 x0_3, .int .i64 x0_4] fun h3 =>
  pushJ h3 1 [.slice ax1_0 lx1_0 cx1_0, .slice ax1_1 lx1_1 cx1_1, .int .i64 x1_2, .int .i64 x1_3, .int .i64 x1_4] fun h4 =>
  bindN (loadO Tryd.prog 53 (.pointer (some ⟨h.next, 0, none⟩)) h4) fun v50 h51 =>
  aggK v50 fun q52 =>
  consK q52 fun x53 q54 =>
  sliceK x53 fun a55 l55 c55 =>
  consK q54 fun x56 q57 =>
  sliceK x56 fun a58 l58 c58 =>
  consK q57 fun x59 q60 =>
  intK .i64 x59 fun n61 =>
  consK q60 fun x62 q63 =>
  intK .i64 x62 fun n64 =>
  consK q63 fun x65 q66 =>
  intK .i64 x65 fun n67 =>
  nilK q66 <|
  bindN (call h51.next 35 [.agg #[.slice a55 l55 c55, .slice a58 l58 c58, .int .i64 n61, .int .i64 n64, .int .i64 n67]] h51) fun v68 h69 =>
  sliceK v68 fun a70 l70 c70 =>
  bindN (loadO Tryd.prog 53 (.pointer (some ⟨h3.next, 0, none⟩)) h69) fun v71 h72 =>
  aggK v71 fun q73 =>
  consK q73 fun x74 q75 =>
  sliceK x74 fun a76 l76 c76 =>
  consK q75 fun x77 q78 =>
  sliceK x77 fun a79 l79 c79 =>
  consK q78 fun x80 q81 =>
  intK .i64 x80 fun n82 =>
  consK q81 fun x83 q84 =>
  intK .i64 x83 fun n85 =>
  consK q84 fun x86 q87 =>
  intK .i64 x86 fun n88 =>
  nilK q87 <|
  bindO (call ro 35 [.agg #[.slice a76 l76 c76, .slice a79 l79 c79, .int .i64 n82, .int .i64 n85, .int .i64 n88]] h72) fun v89 h90 =>
  sliceK v89 fun a91 l91 c91 =>
  bindO (call ro 34 [.slice a70 l70 c70, .slice a91 l91 c91] h90) fun v92 h93 =>
  intK .i64 v92 fun n94 =>
  Out.ok (.int .i64 n94) h93

noncomputable def F33.Ht (call : CT) (lf ro : Nat) (i : Nat) (e : Env) (h : Heap) : Out := .fail
noncomputable def F33.Ut (call : CT) (lf ro : Nat) (i : Nat) : Option (Env → Heap → Out) := none

theorem F33.le (call : CT) (lf ro : Nat) (ax0_0 : Option Addr) (lx0_0 : Nat) (cx0_0 : Nat) (ax0_1 : Option Addr) (lx0_1 : Nat) (cx0_1 : Nat) (x0_2 : Int) (x0_3 : Int) (x0_4 : Int) (ax1_0 : Option Addr) (lx1_0 : Nat) (cx1_0 : Nat) (ax1_1 : Option Addr) (lx1_1 : Nat) (cx1_1 : Nat) (x1_2 : Int) (x1_3 : Int) (x1_4 : Int) (h : Heap) : LeO (F33.t call lf ro ax0_0 lx0_0 cx0_0 ax0_1 lx0_1 cx0_1 x0_2 x0_3 x0_4 ax1_0 lx1_0 cx1_0 ax1_1 lx1_1 cx1_1 x1_2 x1_3 x1_4 h) (bodyK Tryd.prog call lf ro Tryd.f33 [.agg #[.slice ax0_0 lx0_0 cx0_0, .slice ax0_1 lx0_1 cx0_1, .int .i64 x0_2, .int .i64 x0_3, .int .i64 x0_4], .agg #[.slice ax1_0 lx1_0 cx1_0, .slice ax1_1 lx1_1 cx1_1, .int .i64 x1_2, .int .i64 x1_3, .int .i64 x1_4]] h) :=
  body_le (c := codeOf Tryd.f33) (H := F33.Ht call lf ro) (J := F33.Ut call lf ro) rfl (Nat.le_of_ble_eq_true rfl) (hd_free rfl) (by kernel_rfl)

/-! ### barscan/aztext.compare: function 34 -/

noncomputable def F34.J3 (call : CT) (lf ro : Nat) (kb2 : (Option Addr) → Nat → Nat → (Option Addr) → Nat → Nat → Int → Int → Heap → Out) (a6 : Option Addr) (l6 : Nat) (c6 : Nat) (a7 : Option Addr) (l7 : Nat) (c7 : Nat) (n8 : Int) (n9 : Int) (h10 : Heap) : Out :=
  bindN (idxO Tryd.prog 24 (.slice a6 l6 c6) (.int .i64 n9) h10) fun v181 h182 =>
  bindN (loadO Tryd.prog 4 v181 h182) fun v183 h184 =>
  boolK v183 fun b185 =>
  bindN (idxO Tryd.prog 24 (.slice a7 l7 c7) (.int .i64 n9) h184) fun v186 h187 =>
  bindN (loadO Tryd.prog 4 v186 h187) fun v188 h189 =>
  boolK v188 fun b190 =>
  ifK (b185 == b190) (kb2 a6 l6 c6 a7 l7 c7 n8 (IntKind.i64.wrap (n9 + 1)) h189) (bindO (idxO Tryd.prog 24 (.slice a7 l7 c7) (.int .i64 n9) h189) fun v206 h207 =>
  bindO (loadO Tryd.prog 4 v206 h207) fun v208 h209 =>
  boolK v208 fun b210 =>
  ifK b210 (Out.ok (.int .i64 (-1)) h209) (Out.ok (.int .i64 1) h209))

noncomputable def F34.PJ3 (kb : (Option Addr) → Nat → Nat → (Option Addr) → Nat → Nat → Int → Int → Heap → Out) (e : Env) (h : Heap) : Out :=
  getK (e.get 0) fun w0 =>
  sliceK w0 fun a211 l211 c211 =>
  getK (e.get 1) fun w1 =>
  sliceK w1 fun a212 l212 c212 =>
  getK (e.get 10) fun w10 =>
  intK .i64 w10 fun n213 =>
  getK (e.get 11) fun w11 =>
  intK .i64 w11 fun n214 =>
  kb a211 l211 c211 a212 l212 c212 n213 n214 h

noncomputable def F34.L2 (call : CT) (lf ro : Nat) : Nat → (Option Addr) → Nat → Nat → (Option Addr) → Nat → Nat → Int → Int → Heap → Out
  | 0, _, _, _, _, _, _, _, _, _ => .fail
  | n + 1, a1, l1, c1, a2, l2, c2, n3, n4, h5 =>
  ifK (decide (n4 < n3)) (F34.J3 call lf ro (F34.L2 call lf ro n) a1 l1 c1 a2 l2 c2 n3 n4 h5) (Out.ok (.int .i64 0) h5)

noncomputable def F34.P2 (kb : (Option Addr) → Nat → Nat → (Option Addr) → Nat → Nat → Int → Int → Heap → Out) (e : Env) (h : Heap) : Out :=
  getK (e.get 0) fun w0 =>
  sliceK w0 fun a215 l215 c215 =>
  getK (e.get 1) fun w1 =>
  sliceK w1 fun a216 l216 c216 =>
  getK (e.get 10) fun w10 =>
  intK .i64 w10 fun n217 =>
  getK (e.get 11) fun w11 =>
  intK .i64 w11 fun n218 =>
  kb a215 l215 c215 a216 l216 c216 n217 n218 h

noncomputable def F34.t (call : CT) (lf ro : Nat) (ax0 : Option Addr) (lx0 : Nat) (cx0 : Nat) (ax1 : Option Addr) (lx1 : Nat) (cx1 : Nat) (h : Heap) : Out :=
  F34.L2 call lf ro lf ax0 lx0 cx0 ax1 lx1 cx1 (if (lx1 : Int) < (lx0 : Int) then (lx1 : Int) else (lx0 : Int)) 0 h

noncomputable def F34.Ht (call : CT) (lf ro : Nat) (i : Nat) (e : Env) (h : Heap) : Out := ifK (i == 2) (F34.P2 (F34.L2 call lf ro lf) e h) (.fail)
noncomputable def F34.Ut (call : CT) (lf ro : Nat) (i : Nat) : Option (Env → Heap → Out) := none

noncomputable def F34.H2 (call : CT) (lf ro : Nat) (kb2 : (Option Addr) → Nat → Nat → (Option Addr) → Nat → Nat → Int → Int → Heap → Out) (i : Nat) (e : Env) (h : Heap) : Out := ifK (i == 2) (F34.P2 (F34.L2 call lf ro lf) e h) (.fail)
noncomputable def F34.U2 (call : CT) (lf ro : Nat) (kb2 : (Option Addr) → Nat → Nat → (Option Addr) → Nat → Nat → Int → Int → Heap → Out) (i : Nat) : Option (Env → Heap → Out) := ifJ (i == 3) (some (F34.PJ3 (F34.J3 call lf ro kb2))) (none)

noncomputable def F34.C2 (call : CT) (lf ro : Nat) : COut → Out := blockK 0 (seqH Tryd.prog call ro (F34.Ht call lf ro) (F34.Ut call lf ro) (sub (codeOf Tryd.f34) [true, true]) (endK Tryd.prog Tryd.f34))

noncomputable def F34.K2 (call : CT) (lf ro : Nat) : COut → Out := blockK 0 (seqK Tryd.prog call lf ro (sub (codeOf Tryd.f34) [true, true]) (endK Tryd.prog Tryd.f34))

noncomputable def F34.CJ3 (call : CT) (lf ro : Nat) (kb2 : (Option Addr) → Nat → Nat → (Option Addr) → Nat → Nat → Int → Int → Heap → Out) : COut → Out := outK (F34.P2 kb2) (fun i e h => F34.C2 call lf ro (.exit i e h)) (fun e h => F34.C2 call lf ro (.ret e h))

noncomputable def F34.KJ3 (call : CT) (lf ro : Nat) (kb2 : (Option Addr) → Nat → Nat → (Option Addr) → Nat → Nat → Int → Int → Heap → Out) : COut → Out := outK (F34.P2 kb2) (fun i e h => F34.C2 call lf ro (.exit i e h)) (fun e h => F34.C2 call lf ro (.ret e h))

theorem F34.RJ3 (call : CT) (lf ro : Nat) (kb2 : (Option Addr) → Nat → Nat → (Option Addr) → Nat → Nat → Int → Int → Heap → Out) (f : Nat → Option Value) (a6 : Option Addr) (l6 : Nat) (c6 : Nat) (a7 : Option Addr) (l7 : Nat) (c7 : Nat) (n8 : Int) (n9 : Int) (h10 : Heap) :
    execH Tryd.prog call ro (F34.H2 call lf ro kb2) (F34.U2 call lf ro kb2) (sub (codeOf Tryd.f34) [true, false, true, false, false, true, true]) (EF 30 (updF (updF (updF (updF f 0 (some (.slice a6 l6 c6))) 1 (some (.slice a7 l7 c7))) 10 (some (.int .i64 n8))) 11 (some (.int .i64 n9)))) h10 (F34.CJ3 call lf ro kb2) = F34.J3 call lf ro kb2 a6 l6 c6 a7 l7 c7 n8 n9 h10 := by kernel_rfl

theorem F34.CKJ3 (call : CT) (lf ro : Nat) (kb2 : (Option Addr) → Nat → Nat → (Option Addr) → Nat → Nat → Int → Int → Heap → Out) : KLe 30 (F34.CJ3 call lf ro kb2) (F34.KJ3 call lf ro kb2) :=
  (KLe.refl _)

theorem F34.BJ3 (call : CT) (lf ro : Nat) (kb2 : (Option Addr) → Nat → Nat → (Option Addr) → Nat → Nat → Int → Int → Heap → Out) : ∀ e h, Shaped 30 e → LeO (F34.PJ3 (F34.J3 call lf ro kb2) e h) (execK Tryd.prog call lf ro (sub (codeOf Tryd.f34) [true, false, true, false, false, true, true]) e h (F34.KJ3 call lf ro kb2)) := by
    rintro e h ⟨f, rfl⟩
    unfold F34.PJ3
    refine getK_le fun w0 g0 => ?_
    rw [EF_get (by decide)] at g0
    refine sliceK_le fun a211 l211 c211 z219 => ?_
    subst z219
    refine getK_le fun w1 g1 => ?_
    rw [EF_get (by decide)] at g1
    refine sliceK_le fun a212 l212 c212 z220 => ?_
    subst z220
    refine getK_le fun w10 g10 => ?_
    rw [EF_get (by decide)] at g10
    refine intK_le fun n213 z221 => ?_
    subst z221
    refine getK_le fun w11 g11 => ?_
    rw [EF_get (by decide)] at g11
    refine intK_le fun n214 z222 => ?_
    subst z222
    have hr := F34.RJ3 call lf ro kb2 f a211 l211 c211 a212 l212 c212 n213 n214 h
    rw [updF_same g0, updF_same g1, updF_same g10, updF_same g11] at hr
    exact cut_le (H := (F34.H2 call lf ro kb2)) (J := (F34.U2 call lf ro kb2)) (F34.CKJ3 call lf ro kb2) (hd_free rfl) hr

theorem F34.R2 (call : CT) (lf ro : Nat) (n : Nat) (f : Nat → Option Value) (a1 : Option Addr) (l1 : Nat) (c1 : Nat) (a2 : Option Addr) (l2 : Nat) (c2 : Nat) (n3 : Int) (n4 : Int) (h5 : Heap) :
    execH Tryd.prog call ro (F34.H2 call lf ro (F34.L2 call lf ro n)) (F34.U2 call lf ro (F34.L2 call lf ro n)) (sub (codeOf Tryd.f34) [true, false, true, false, false]) (EF 30 (updF (updF (updF (updF f 0 (some (.slice a1 l1 c1))) 1 (some (.slice a2 l2 c2))) 10 (some (.int .i64 n3))) 11 (some (.int .i64 n4)))) h5 (outK (F34.P2 (F34.L2 call lf ro n)) (fun i e h => F34.C2 call lf ro (.exit i e h)) (fun e h => F34.C2 call lf ro (.ret e h))) = F34.L2 call lf ro (n + 1) a1 l1 c1 a2 l2 c2 n3 n4 h5 := by kernel_rfl

theorem F34.CK2 (call : CT) (lf ro : Nat) : KLe 30 (F34.C2 call lf ro) (F34.K2 call lf ro) :=
  (KLe.block (KLe.seq (H := (F34.Ht call lf ro)) (J := (F34.Ut call lf ro)) (KLe.refl _) (hd_free rfl)))

theorem F34.B2 (call : CT) (lf ro : Nat) : ∀ n e h, Shaped 30 e → LeO (F34.P2 (F34.L2 call lf ro n) e h) (loopK (execK Tryd.prog call lf ro (sub (codeOf Tryd.f34) [true, false, true, false, false])) n e h (F34.K2 call lf ro)) := by
  refine loop_le (fun e h k k' hs hk => execK_mono _ e h k k' hs hk) (kb := fun n => F34.P2 (F34.L2 call lf ro n)) (kx := fun i e h => F34.C2 call lf ro (.exit i e h)) (kr := fun e h => F34.C2 call lf ro (.ret e h)) ?_ ?_ (fun i e h hs => (F34.CK2 call lf ro).exit i e h hs) (fun e h hs => (F34.CK2 call lf ro).ret e h hs)
  · rintro e h ⟨f, rfl⟩
    unfold F34.P2
    refine getK_le fun w0 g0 => ?_
    rw [EF_get (by decide)] at g0
    refine sliceK_le fun a215 l215 c215 z227 => ?_
    subst z227
    refine getK_le fun w1 g1 => ?_
    rw [EF_get (by decide)] at g1
    refine sliceK_le fun a216 l216 c216 z228 => ?_
    subst z228
    refine getK_le fun w10 g10 => ?_
    rw [EF_get (by decide)] at g10
    refine intK_le fun n217 z229 => ?_
    subst z229
    refine getK_le fun w11 g11 => ?_
    rw [EF_get (by decide)] at g11
    refine intK_le fun n218 z230 => ?_
    subst z230
    exact LeO.refl _
  · rintro n e h ⟨f, rfl⟩
    unfold F34.P2
    refine getK_le fun w0 g0 => ?_
    rw [EF_get (by decide)] at g0
    refine sliceK_le fun a215 l215 c215 z231 => ?_
    subst z231
    refine getK_le fun w1 g1 => ?_
    rw [EF_get (by decide)] at g1
    refine sliceK_le fun a216 l216 c216 z232 => ?_
    subst z232
    refine getK_le fun w10 g10 => ?_
    rw [EF_get (by decide)] at g10
    refine intK_le fun n217 z233 => ?_
    subst z233
    refine getK_le fun w11 g11 => ?_
    rw [EF_get (by decide)] at g11
    refine intK_le fun n218 z234 => ?_
    subst z234
    have hr := F34.R2 call lf ro n f a215 l215 c215 a216 l216 c216 n217 n218 h
    rw [updF_same g0, updF_same g1, updF_same g10, updF_same g11] at hr
    exact round_le (H := (F34.H2 call lf ro (F34.L2 call lf ro n))) (J := (F34.U2 call lf ro (F34.L2 call lf ro n))) ⟨(hd_free rfl), ⟨(hd_free rfl), (fun e h hs => F34.BJ3 call lf ro (F34.L2 call lf ro n) e h hs)⟩⟩ hr

theorem F34.le (call : CT) (lf ro : Nat) (ax0 : Option Addr) (lx0 : Nat) (cx0 : Nat) (ax1 : Option Addr) (lx1 : Nat) (cx1 : Nat) (h : Heap) : LeO (F34.t call lf ro ax0 lx0 cx0 ax1 lx1 cx1 h) (bodyK Tryd.prog call lf ro Tryd.f34 [.slice ax0 lx0 cx0, .slice ax1 lx1 cx1] h) :=
  body_le (c := codeOf Tryd.f34) (H := F34.Ht call lf ro) (J := F34.Ut call lf ro) rfl (Nat.le_of_ble_eq_true rfl) ⟨(hd_free rfl), ⟨⟨(hd_free rfl), (fun e h hs => F34.B2 call lf ro  lf e h hs)⟩, (hd_free rfl)⟩⟩ (by kernel_rfl)

/-! ### (barscan/aztext.edge).bits: function 35 -/

noncomputable def F35.L6 (call : CT) (lf ro : Nat) (kb3 : Nat → Nat → (Option Addr) → Nat → Nat → (Option Addr) → Nat → Nat → Int → Int → Heap → Out) : Nat → Nat → Nat → (Option Addr) → Nat → Nat → Int → Int → (Option Addr) → Nat → Nat → Int → Int → Heap → Out
  | 0, _, _, _, _, _, _, _, _, _, _, _, _, _ => .fail
  | n + 1, p47, o47, a48, l48, c48, n49, n50, a51, l51, c51, n52, n53, h54 =>
  letJ ((kb3 p47 o47 a48 l48 c48 a51 l51 c51 n52 (IntKind.i64.wrap (n53 + 1)) h54)) fun j205 =>
  ifK (decide (n50 ≥ 0)) (bindO (binO Tryd.prog .shr 3 false (.int .i64 n49) (.int .i64 n50) h54) fun v220 h221 =>
  intK .i64 v220 fun n222 =>
  pushJ h221 1 [.bool ((bAnd .i64 n222 1) == 1)] fun h223 =>
  bindO (appO Tryd.prog ro 24 24 (.slice a48 l48 c48) (.slice (some ⟨h221.next, 0, none⟩) 1 1) h223) fun v224 h225 =>
  sliceK v224 fun a226 l226 c226 =>
  F35.L6 call lf ro kb3 n p47 o47 a226 l226 c226 n49 (IntKind.i64.wrap (n50 - 1)) a51 l51 c51 n52 n53 h225) (j205)

noncomputable def F35.P6 (kb : Nat → Nat → (Option Addr) → Nat → Nat → Int → Int → (Option Addr) → Nat → Nat → Int → Int → Heap → Out) (e : Env) (h : Heap) : Out :=
  getK (e.get 1) fun w1 =>
  ptrK w1 fun p227 o227 =>
  getK (e.get 3) fun w3 =>
  sliceK w3 fun a228 l228 c228 =>
  getK (e.get 5) fun w5 =>
  intK .i64 w5 fun n229 =>
  getK (e.get 6) fun w6 =>
  intK .i64 w6 fun n230 =>
  getK (e.get 8) fun w8 =>
  sliceK w8 fun a231 l231 c231 =>
  getK (e.get 9) fun w9 =>
  intK .i64 w9 fun n232 =>
  getK (e.get 10) fun w10 =>
  intK .i64 w10 fun n233 =>
  kb p227 o227 a228 l228 c228 n229 n230 a231 l231 c231 n232 n233 h

noncomputable def F35.J4 (call : CT) (lf ro : Nat) (kb3 : Nat → Nat → (Option Addr) → Nat → Nat → (Option Addr) → Nat → Nat → Int → Int → Heap → Out) (p15 : Nat) (o15 : Nat) (a16 : Option Addr) (l16 : Nat) (c16 : Nat) (a17 : Option Addr) (l17 : Nat) (c17 : Nat) (n18 : Int) (n19 : Int) (h20 : Heap) : Out :=
  bindO (idxO Tryd.prog 35 (.slice a17 l17 c17) (.int .i64 n19) h20) fun v291 h292 =>
  bindO (loadO Tryd.prog 3 v291 h292) fun v293 h294 =>
  intK .i64 v293 fun n295 =>
  bindO (loadO Tryd.prog 35 (.pointer (some ⟨p15, o15 + 1, none⟩)) h294) fun v304 h305 =>
  sliceK v304 fun a306 l306 c306 =>
  bindO (idxO Tryd.prog 35 (.slice a306 l306 c306) (.int .i64 n19) h305) fun v307 h308 =>
  bindO (loadO Tryd.prog 3 v307 h308) fun v309 h310 =>
  intK .i64 v309 fun n311 =>
  F35.L6 call lf ro kb3 lf p15 o15 a16 l16 c16 n295 (IntKind.i64.wrap (n311 - 1)) a17 l17 c17 n18 n19 h310

noncomputable def F35.PJ4 (kb : Nat → Nat → (Option Addr) → Nat → Nat → (Option Addr) → Nat → Nat → Int → Int → Heap → Out) (e : Env) (h : Heap) : Out :=
  getK (e.get 1) fun w1 =>
  ptrK w1 fun p312 o312 =>
  getK (e.get 3) fun w3 =>
  sliceK w3 fun a313 l313 c313 =>
  getK (e.get 8) fun w8 =>
  sliceK w8 fun a314 l314 c314 =>
  getK (e.get 9) fun w9 =>
  intK .i64 w9 fun n315 =>
  getK (e.get 10) fun w10 =>
  intK .i64 w10 fun n316 =>
  kb p312 o312 a313 l313 c313 a314 l314 c314 n315 n316 h

noncomputable def F35.L3 (call : CT) (lf ro : Nat) : Nat → Nat → Nat → (Option Addr) → Nat → Nat → (Option Addr) → Nat → Nat → Int → Int → Heap → Out
  | 0, _, _, _, _, _, _, _, _, _, _, _ => .fail
  | n + 1, p9, o9, a10, l10, c10, a11, l11, c11, n12, n13, h14 =>
  ifK (decide (n13 < n12)) (F35.J4 call lf ro (F35.L3 call lf ro n) p9 o9 a10 l10 c10 a11 l11 c11 n12 n13 h14) (Out.ok (.slice a10 l10 c10) h14)

noncomputable def F35.P3 (kb : Nat → Nat → (Option Addr) → Nat → Nat → (Option Addr) → Nat → Nat → Int → Int → Heap → Out) (e : Env) (h : Heap) : Out :=
  getK (e.get 1) fun w1 =>
  ptrK w1 fun p317 o317 =>
  getK (e.get 3) fun w3 =>
  sliceK w3 fun a318 l318 c318 =>
  getK (e.get 8) fun w8 =>
  sliceK w8 fun a319 l319 c319 =>
  getK (e.get 9) fun w9 =>
  intK .i64 w9 fun n320 =>
  getK (e.get 10) fun w10 =>
  intK .i64 w10 fun n321 =>
  kb p317 o317 a318 l318 c318 a319 l319 c319 n320 n321 h

noncomputable def F35.t (call : CT) (lf ro : Nat) (ax0_0 : Option Addr) (lx0_0 : Nat) (cx0_0 : Nat) (ax0_1 : Option Addr) (lx0_1 : Nat) (cx0_1 : Nat) (x0_2 : Int) (x0_3 : Int) (x0_4 : Int) (h : Heap) : Out :=
  pushJ h 1 [.slice ax0_0 lx0_0 cx0_0, .slice ax0_1 lx0_1 cx0_1, .int .i64 x0_2, .int .i64 x0_3, .int .i64 x0_4] fun h2 =>
  bindO (loadO Tryd.prog 35 (.pointer (some ⟨h.next, 0, none⟩)) h2) fun v6 h7 =>
  sliceK v6 fun a8 l8 c8 =>
  F35.L3 call lf ro lf h.next 0 none 0 0 a8 l8 c8 (l8 : Int) 0 h7

noncomputable def F35.Ht (call : CT) (lf ro : Nat) (i : Nat) (e : Env) (h : Heap) : Out := ifK (i == 3) (F35.P3 (F35.L3 call lf ro lf) e h) (.fail)
noncomputable def F35.Ut (call : CT) (lf ro : Nat) (i : Nat) : Option (Env → Heap → Out) := none

noncomputable def F35.H6 (call : CT) (lf ro : Nat) (kb3 : Nat → Nat → (Option Addr) → Nat → Nat → (Option Addr) → Nat → Nat → Int → Int → Heap → Out) (kb6 : Nat → Nat → (Option Addr) → Nat → Nat → Int → Int → (Option Addr) → Nat → Nat → Int → Int → Heap → Out) (i : Nat) (e : Env) (h : Heap) : Out := ifK (i == 6) (F35.P6 (F35.L6 call lf ro kb3 lf) e h) (ifK (i == 3) (F35.P3 (F35.L3 call lf ro lf) e h) (.fail))
noncomputable def F35.U6 (call : CT) (lf ro : Nat) (kb3 : Nat → Nat → (Option Addr) → Nat → Nat → (Option Addr) → Nat → Nat → Int → Int → Heap → Out) (kb6 : Nat → Nat → (Option Addr) → Nat → Nat → Int → Int → (Option Addr) → Nat → Nat → Int → Int → Heap → Out) (i : Nat) : Option (Env → Heap → Out) := ifJ (i == 4) (some (F35.PJ4 (F35.J4 call lf ro kb3))) (none)

noncomputable def F35.H3 (call : CT) (lf ro : Nat) (kb3 : Nat → Nat → (Option Addr) → Nat → Nat → (Option Addr) → Nat → Nat → Int → Int → Heap → Out) (i : Nat) (e : Env) (h : Heap) : Out := ifK (i == 6) (F35.P6 (F35.L6 call lf ro kb3 lf) e h) (ifK (i == 3) (F35.P3 (F35.L3 call lf ro lf) e h) (.fail))
noncomputable def F35.U3 (call : CT) (lf ro : Nat) (kb3 : Nat → Nat → (Option Addr) → Nat → Nat → (Option Addr) → Nat → Nat → Int → Int → Heap → Out) (i : Nat) : Option (Env → Heap → Out) := ifJ (i == 4) (some (F35.PJ4 (F35.J4 call lf ro kb3))) (none)

noncomputable def F35.C3 (call : CT) (lf ro : Nat) : COut → Out := blockK 0 (seqH Tryd.prog call ro (F35.Ht call lf ro) (F35.Ut call lf ro) (sub (codeOf Tryd.f35) [true, true, true]) (endK Tryd.prog Tryd.f35))

noncomputable def F35.K3 (call : CT) (lf ro : Nat) : COut → Out := blockK 0 (seqK Tryd.prog call lf ro (sub (codeOf Tryd.f35) [true, true, true]) (endK Tryd.prog Tryd.f35))

noncomputable def F35.C6 (call : CT) (lf ro : Nat) (kb3 : Nat → Nat → (Option Addr) → Nat → Nat → (Option Addr) → Nat → Nat → Int → Int → Heap → Out) : COut → Out := blockK 2 (blockK 1 (seqH Tryd.prog call ro (F35.H3 call lf ro kb3) (F35.U3 call lf ro kb3) (sub (codeOf Tryd.f35) [true, true, false, true, false, false, true, true, true]) (outK (F35.P3 kb3) (fun i e h => F35.C3 call lf ro (.exit i e h)) (fun e h => F35.C3 call lf ro (.ret e h)))))

noncomputable def F35.K6 (call : CT) (lf ro : Nat) (kb3 : Nat → Nat → (Option Addr) → Nat → Nat → (Option Addr) → Nat → Nat → Int → Int → Heap → Out) : COut → Out := blockK 2 (blockK 1 (seqK Tryd.prog call lf ro (sub (codeOf Tryd.f35) [true, true, false, true, false, false, true, true, true]) (outK (F35.P3 kb3) (fun i e h => F35.C3 call lf ro (.exit i e h)) (fun e h => F35.C3 call lf ro (.ret e h)))))

noncomputable def F35.CJ4 (call : CT) (lf ro : Nat) (kb3 : Nat → Nat → (Option Addr) → Nat → Nat → (Option Addr) → Nat → Nat → Int → Int → Heap → Out) : COut → Out := outK (F35.P3 kb3) (fun i e h => F35.C3 call lf ro (.exit i e h)) (fun e h => F35.C3 call lf ro (.ret e h))

noncomputable def F35.KJ4 (call : CT) (lf ro : Nat) (kb3 : Nat → Nat → (Option Addr) → Nat → Nat → (Option Addr) → Nat → Nat → Int → Int → Heap → Out) : COut → Out := outK (F35.P3 kb3) (fun i e h => F35.C3 call lf ro (.exit i e h)) (fun e h => F35.C3 call lf ro (.ret e h))

theorem F35.R6 (call : CT) (lf ro : Nat) (kb3 : Nat → Nat → (Option Addr) → Nat → Nat → (Option Addr) → Nat → Nat → Int → Int → Heap → Out) (n : Nat) (f : Nat → Option Value) (p47 : Nat) (o47 : Nat) (a48 : Option Addr) (l48 : Nat) (c48 : Nat) (n49 : Int) (n50 : Int) (a51 : Option Addr) (l51 : Nat) (c51 : Nat) (n52 : Int) (n53 : Int) (h54 : Heap) :
    execH Tryd.prog call ro (F35.H6 call lf ro kb3 (F35.L6 call lf ro kb3 n)) (F35.U6 call lf ro kb3 (F35.L6 call lf ro kb3 n)) (sub (codeOf Tryd.f35) [true, true, false, true, false, false, true, true, false, false, true, true, false, false]) (EF 35 (updF (updF (updF (updF (updF (updF (updF f 1 (some (.pointer (some ⟨p47, o47, none⟩)))) 3 (some (.slice a48 l48 c48))) 5 (some (.int .i64 n49))) 6 (some (.int .i64 n50))) 8 (some (.slice a51 l51 c51))) 9 (some (.int .i64 n52))) 10 (some (.int .i64 n53)))) h54 (outK (F35.P6 (F35.L6 call lf ro kb3 n)) (fun i e h => F35.C6 call lf ro kb3 (.exit i e h)) (fun e h => F35.C6 call lf ro kb3 (.ret e h))) = F35.L6 call lf ro kb3 (n + 1) p47 o47 a48 l48 c48 n49 n50 a51 l51 c51 n52 n53 h54 := by kernel_rfl

theorem F35.CK6 (call : CT) (lf ro : Nat) (kb3 : Nat → Nat → (Option Addr) → Nat → Nat → (Option Addr) → Nat → Nat → Int → Int → Heap → Out) : KLe 35 (F35.C6 call lf ro kb3) (F35.K6 call lf ro kb3) :=
  (KLe.block (KLe.block (KLe.seq (H := (F35.H3 call lf ro kb3)) (J := (F35.U3 call lf ro kb3)) (KLe.refl _) (hd_free rfl))))

theorem F35.B6 (call : CT) (lf ro : Nat) (kb3 : Nat → Nat → (Option Addr) → Nat → Nat → (Option Addr) → Nat → Nat → Int → Int → Heap → Out) : ∀ n e h, Shaped 35 e → LeO (F35.P6 (F35.L6 call lf ro kb3 n) e h) (loopK (execK Tryd.prog call lf ro (sub (codeOf Tryd.f35) [true, true, false, true, false, false, true, true, false, false, true, true, false, false])) n e h (F35.K6 call lf ro kb3)) := by
  refine loop_le (fun e h k k' hs hk => execK_mono _ e h k k' hs hk) (kb := fun n => F35.P6 (F35.L6 call lf ro kb3 n)) (kx := fun i e h => F35.C6 call lf ro kb3 (.exit i e h)) (kr := fun e h => F35.C6 call lf ro kb3 (.ret e h)) ?_ ?_ (fun i e h hs => (F35.CK6 call lf ro kb3).exit i e h hs) (fun e h hs => (F35.CK6 call lf ro kb3).ret e h hs)
  · rintro e h ⟨f, rfl⟩
    unfold F35.P6
    refine getK_le fun w1 g1 => ?_
    rw [EF_get (by decide)] at g1
    refine ptrK_le fun p227 o227 z322 => ?_
    subst z322
    refine getK_le fun w3 g3 => ?_
    rw [EF_get (by decide)] at g3
    refine sliceK_le fun a228 l228 c228 z323 => ?_
    subst z323
    refine getK_le fun w5 g5 => ?_
    rw [EF_get (by decide)] at g5
    refine intK_le fun n229 z324 => ?_
    subst z324
    refine getK_le fun w6 g6 => ?_
    rw [EF_get (by decide)] at g6
    refine intK_le fun n230 z325 => ?_
    subst z325
    refine getK_le fun w8 g8 => ?_
    rw [EF_get (by decide)] at g8
    refine sliceK_le fun a231 l231 c231 z326 => ?_
    subst z326
    refine getK_le fun w9 g9 => ?_
    rw [EF_get (by decide)] at g9
    refine intK_le fun n232 z327 => ?_
    subst z327
    refine getK_le fun w10 g10 => ?_
    rw [EF_get (by decide)] at g10
    refine intK_le fun n233 z328 => ?_
    subst z328
    exact LeO.refl _
  · rintro n e h ⟨f, rfl⟩
    unfold F35.P6
    refine getK_le fun w1 g1 => ?_
    rw [EF_get (by decide)] at g1
    refine ptrK_le fun p227 o227 z329 => ?_
    subst z329
    refine getK_le fun w3 g3 => ?_
    rw [EF_get (by decide)] at g3
    refine sliceK_le fun a228 l228 c228 z330 => ?_
    subst z330
    refine getK_le fun w5 g5 => ?_
    rw [EF_get (by decide)] at g5
    refine intK_le fun n229 z331 => ?_
    subst z331
    refine getK_le fun w6 g6 => ?_
    rw [EF_get (by decide)] at g6
    refine intK_le fun n230 z332 => ?_
    subst z332
    refine getK_le fun w8 g8 => ?_
    rw [EF_get (by decide)] at g8
    refine sliceK_le fun a231 l231 c231 z333 => ?_
    subst z333
    refine getK_le fun w9 g9 => ?_
    rw [EF_get (by decide)] at g9
    refine intK_le fun n232 z334 => ?_
    subst z334
    refine getK_le fun w10 g10 => ?_
    rw [EF_get (by decide)] at g10
    refine intK_le fun n233 z335 => ?_
    subst z335
    have hr := F35.R6 call lf ro kb3 n f p227 o227 a228 l228 c228 n229 n230 a231 l231 c231 n232 n233 h
    rw [updF_same g1, updF_same g3, updF_same g5, updF_same g6, updF_same g8, updF_same g9, updF_same g10] at hr
    exact round_le (H := (F35.H6 call lf ro kb3 (F35.L6 call lf ro kb3 n))) (J := (F35.U6 call lf ro kb3 (F35.L6 call lf ro kb3 n))) (hd_free rfl) hr

theorem F35.RJ4 (call : CT) (lf ro : Nat) (kb3 : Nat → Nat → (Option Addr) → Nat → Nat → (Option Addr) → Nat → Nat → Int → Int → Heap → Out) (f : Nat → Option Value) (p15 : Nat) (o15 : Nat) (a16 : Option Addr) (l16 : Nat) (c16 : Nat) (a17 : Option Addr) (l17 : Nat) (c17 : Nat) (n18 : Int) (n19 : Int) (h20 : Heap) :
    execH Tryd.prog call ro (F35.H3 call lf ro kb3) (F35.U3 call lf ro kb3) (sub (codeOf Tryd.f35) [true, true, false, true, false, false, true, true]) (EF 35 (updF (updF (updF (updF (updF f 1 (some (.pointer (some ⟨p15, o15, none⟩)))) 3 (some (.slice a16 l16 c16))) 8 (some (.slice a17 l17 c17))) 9 (some (.int .i64 n18))) 10 (some (.int .i64 n19)))) h20 (F35.CJ4 call lf ro kb3) = F35.J4 call lf ro kb3 p15 o15 a16 l16 c16 a17 l17 c17 n18 n19 h20 := by kernel_rfl

theorem F35.CKJ4 (call : CT) (lf ro : Nat) (kb3 : Nat → Nat → (Option Addr) → Nat → Nat → (Option Addr) → Nat → Nat → Int → Int → Heap → Out) : KLe 35 (F35.CJ4 call lf ro kb3) (F35.KJ4 call lf ro kb3) :=
  (KLe.refl _)

theorem F35.BJ4 (call : CT) (lf ro : Nat) (kb3 : Nat → Nat → (Option Addr) → Nat → Nat → (Option Addr) → Nat → Nat → Int → Int → Heap → Out) : ∀ e h, Shaped 35 e → LeO (F35.PJ4 (F35.J4 call lf ro kb3) e h) (execK Tryd.prog call lf ro (sub (codeOf Tryd.f35) [true, true, false, true, false, false, true, true]) e h (F35.KJ4 call lf ro kb3)) := by
    rintro e h ⟨f, rfl⟩
    unfold F35.PJ4
    refine getK_le fun w1 g1 => ?_
    rw [EF_get (by decide)] at g1
    refine ptrK_le fun p312 o312 z336 => ?_
    subst z336
    refine getK_le fun w3 g3 => ?_
    rw [EF_get (by decide)] at g3
    refine sliceK_le fun a313 l313 c313 z337 => ?_
    subst z337
    refine getK_le fun w8 g8 => ?_
    rw [EF_get (by decide)] at g8
    refine sliceK_le fun a314 l314 c314 z338 => ?_
    subst z338
    refine getK_le fun w9 g9 => ?_
    rw [EF_get (by decide)] at g9
    refine intK_le fun n315 z339 => ?_
    subst z339
    refine getK_le fun w10 g10 => ?_
    rw [EF_get (by decide)] at g10
    refine intK_le fun n316 z340 => ?_
    subst z340
    have hr := F35.RJ4 call lf ro kb3 f p312 o312 a313 l313 c313 a314 l314 c314 n315 n316 h
    rw [updF_same g1, updF_same g3, updF_same g8, updF_same g9, updF_same g10] at hr
    exact cut_le (H := (F35.H3 call lf ro kb3)) (J := (F35.U3 call lf ro kb3)) (F35.CKJ4 call lf ro kb3) ⟨⟨(hd_free rfl), ⟨(hd_free rfl), (fun e h hs => F35.B6 call lf ro kb3 lf e h hs)⟩⟩, (hd_free rfl)⟩ hr

theorem F35.R3 (call : CT) (lf ro : Nat) (n : Nat) (f : Nat → Option Value) (p9 : Nat) (o9 : Nat) (a10 : Option Addr) (l10 : Nat) (c10 : Nat) (a11 : Option Addr) (l11 : Nat) (c11 : Nat) (n12 : Int) (n13 : Int) (h14 : Heap) :
    execH Tryd.prog call ro (F35.H3 call lf ro (F35.L3 call lf ro n)) (F35.U3 call lf ro (F35.L3 call lf ro n)) (sub (codeOf Tryd.f35) [true, true, false, true, false, false]) (EF 35 (updF (updF (updF (updF (updF f 1 (some (.pointer (some ⟨p9, o9, none⟩)))) 3 (some (.slice a10 l10 c10))) 8 (some (.slice a11 l11 c11))) 9 (some (.int .i64 n12))) 10 (some (.int .i64 n13)))) h14 (outK (F35.P3 (F35.L3 call lf ro n)) (fun i e h => F35.C3 call lf ro (.exit i e h)) (fun e h => F35.C3 call lf ro (.ret e h))) = F35.L3 call lf ro (n + 1) p9 o9 a10 l10 c10 a11 l11 c11 n12 n13 h14 := by kernel_rfl

theorem F35.CK3 (call : CT) (lf ro : Nat) : KLe 35 (F35.C3 call lf ro) (F35.K3 call lf ro) :=
  (KLe.block (KLe.seq (H := (F35.Ht call lf ro)) (J := (F35.Ut call lf ro)) (KLe.refl _) (hd_free rfl)))

theorem F35.B3 (call : CT) (lf ro : Nat) : ∀ n e h, Shaped 35 e → LeO (F35.P3 (F35.L3 call lf ro n) e h) (loopK (execK Tryd.prog call lf ro (sub (codeOf Tryd.f35) [true, true, false, true, false, false])) n e h (F35.K3 call lf ro)) := by
  refine loop_le (fun e h k k' hs hk => execK_mono _ e h k k' hs hk) (kb := fun n => F35.P3 (F35.L3 call lf ro n)) (kx := fun i e h => F35.C3 call lf ro (.exit i e h)) (kr := fun e h => F35.C3 call lf ro (.ret e h)) ?_ ?_ (fun i e h hs => (F35.CK3 call lf ro).exit i e h hs) (fun e h hs => (F35.CK3 call lf ro).ret e h hs)
  · rintro e h ⟨f, rfl⟩
    unfold F35.P3
    refine getK_le fun w1 g1 => ?_
    rw [EF_get (by decide)] at g1
    refine ptrK_le fun p317 o317 z346 => ?_
    subst z346
    refine getK_le fun w3 g3 => ?_
    rw [EF_get (by decide)] at g3
    refine sliceK_le fun a318 l318 c318 z347 => ?_
    subst z347
    refine getK_le fun w8 g8 => ?_
    rw [EF_get (by decide)] at g8
    refine sliceK_le fun a319 l319 c319 z348 => ?_
    subst z348
    refine getK_le fun w9 g9 => ?_
    rw [EF_get (by decide)] at g9
    refine intK_le fun n320 z349 => ?_
    subst z349
    refine getK_le fun w10 g10 => ?_
    rw [EF_get (by decide)] at g10
    refine intK_le fun n321 z350 => ?_
    subst z350
    exact LeO.refl _
  · rintro n e h ⟨f, rfl⟩
    unfold F35.P3
    refine getK_le fun w1 g1 => ?_
    rw [EF_get (by decide)] at g1
    refine ptrK_le fun p317 o317 z351 => ?_
    subst z351
    refine getK_le fun w3 g3 => ?_
    rw [EF_get (by decide)] at g3
    refine sliceK_le fun a318 l318 c318 z352 => ?_
    subst z352
    refine getK_le fun w8 g8 => ?_
    rw [EF_get (by decide)] at g8
    refine sliceK_le fun a319 l319 c319 z353 => ?_
    subst z353
    refine getK_le fun w9 g9 => ?_
    rw [EF_get (by decide)] at g9
    refine intK_le fun n320 z354 => ?_
    subst z354
    refine getK_le fun w10 g10 => ?_
    rw [EF_get (by decide)] at g10
    refine intK_le fun n321 z355 => ?_
    subst z355
    have hr := F35.R3 call lf ro n f p317 o317 a318 l318 c318 a319 l319 c319 n320 n321 h
    rw [updF_same g1, updF_same g3, updF_same g8, updF_same g9, updF_same g10] at hr
    exact round_le (H := (F35.H3 call lf ro (F35.L3 call lf ro n))) (J := (F35.U3 call lf ro (F35.L3 call lf ro n))) ⟨(hd_free rfl), ⟨(hd_free rfl), (fun e h hs => F35.BJ4 call lf ro (F35.L3 call lf ro n) e h hs)⟩⟩ hr

theorem F35.le (call : CT) (lf ro : Nat) (ax0_0 : Option Addr) (lx0_0 : Nat) (cx0_0 : Nat) (ax0_1 : Option Addr) (lx0_1 : Nat) (cx0_1 : Nat) (x0_2 : Int) (x0_3 : Int) (x0_4 : Int) (h : Heap) : LeO (F35.t call lf ro ax0_0 lx0_0 cx0_0 ax0_1 lx0_1 cx0_1 x0_2 x0_3 x0_4 h) (bodyK Tryd.prog call lf ro Tryd.f35 [.agg #[.slice ax0_0 lx0_0 cx0_0, .slice ax0_1 lx0_1 cx0_1, .int .i64 x0_2, .int .i64 x0_3, .int .i64 x0_4]] h) :=
  body_le (c := codeOf Tryd.f35) (H := F35.Ht call lf ro) (J := F35.Ut call lf ro) rfl (Nat.le_of_ble_eq_true rfl) ⟨(hd_free rfl), ⟨(hd_free rfl), ⟨⟨(hd_free rfl), (fun e h hs => F35.B3 call lf ro  lf e h hs)⟩, (hd_free rfl)⟩⟩⟩ (by kernel_rfl)

/-! ### barscan/barscanref01.Parse: function 47 -/

noncomputable def F47.J7 (call : CT) (lf ro : Nat) (kb5 : ByteArray → (Option Addr) → Nat → Nat → Int → Heap → Out) (s7 : ByteArray) (a8 : Option Addr) (l8 : Nat) (c8 : Nat) (n9 : Int) (h10 : Heap) : Out :=
  letJ (fun (b90 : Bool) (h91 : Heap) =>
  (ifK b90 (Out.ok (.tuple #[.slice none 0 0, .int .i64 6]) h91) (bindO (indexO Tryd.prog 9 (.string s7) (.int .i64 n9) h91) fun v100 h101 =>
  intK .u8 v100 fun n102 =>
  pushJ h101 1 [.bool (n102 == 49)] fun h103 =>
  bindO (appO Tryd.prog ro 24 24 (.slice a8 l8 c8) (.slice (some ⟨h101.next, 0, none⟩) 1 1) h103) fun v104 h105 =>
  sliceK v104 fun a106 l106 c106 =>
  kb5 s7 a106 l106 c106 (IntKind.i64.wrap (n9 + 1)) h105))) fun j92 =>
  bindO (indexO Tryd.prog 9 (.string s7) (.int .i64 n9) h10) fun v107 h108 =>
  intK .u8 v107 fun n109 =>
  ifK (n109 != 48) (bindO (indexO Tryd.prog 9 (.string s7) (.int .i64 n9) h108) fun v110 h111 =>
  intK .u8 v110 fun n112 =>
  j92 (n112 != 49) h111) (j92 false h108)

noncomputable def F47.PJ7 (kb : ByteArray → (Option Addr) → Nat → Nat → Int → Heap → Out) (e : Env) (h : Heap) : Out :=
  getK (e.get 0) fun w0 =>
  strK w0 fun s113 =>
  getK (e.get 4) fun w4 =>
  sliceK w4 fun a114 l114 c114 =>
  getK (e.get 5) fun w5 =>
  intK .i64 w5 fun n115 =>
  kb s113 a114 l114 c114 n115 h

noncomputable def F47.L5 (call : CT) (lf ro : Nat) : Nat → ByteArray → (Option Addr) → Nat → Nat → Int → Heap → Out
  | 0, _, _, _, _, _, _ => .fail
  | n + 1, s3, a4, l4, c4, n5, h6 =>
  ifK (decide (n5 < (s3.size : Int))) (F47.J7 call lf ro (F47.L5 call lf ro n) s3 a4 l4 c4 n5 h6) (Out.ok (.tuple #[.slice a4 l4 c4, .int .i64 0]) h6)

noncomputable def F47.P5 (kb : ByteArray → (Option Addr) → Nat → Nat → Int → Heap → Out) (e : Env) (h : Heap) : Out :=
  getK (e.get 0) fun w0 =>
  strK w0 fun s116 =>
  getK (e.get 4) fun w4 =>
  sliceK w4 fun a117 l117 c117 =>
  getK (e.get 5) fun w5 =>
  intK .i64 w5 fun n118 =>
  kb s116 a117 l117 c117 n118 h

noncomputable def F47.J3 (call : CT) (lf ro : Nat) (s1 : ByteArray) (h2 : Heap) : Out :=
  F47.L5 call lf ro lf s1 none 0 0 0 h2

noncomputable def F47.PJ3 (kb : ByteArray → Heap → Out) (e : Env) (h : Heap) : Out :=
  getK (e.get 0) fun w0 =>
  strK w0 fun s119 =>
  kb s119 h

noncomputable def F47.t (call : CT) (lf ro : Nat) (x0 : ByteArray) (h : Heap) : Out :=
  ifK (decide ((x0.size : Int) > 1048576)) (Out.ok (.tuple #[.slice none 0 0, .int .i64 4]) h) (F47.J3 call lf ro x0 h)

noncomputable def F47.Ht (call : CT) (lf ro : Nat) (i : Nat) (e : Env) (h : Heap) : Out := ifK (i == 5) (F47.P5 (F47.L5 call lf ro lf) e h) (.fail)
noncomputable def F47.Ut (call : CT) (lf ro : Nat) (i : Nat) : Option (Env → Heap → Out) := ifJ (i == 3) (some (F47.PJ3 (F47.J3 call lf ro))) (none)

noncomputable def F47.H5 (call : CT) (lf ro : Nat) (kb5 : ByteArray → (Option Addr) → Nat → Nat → Int → Heap → Out) (i : Nat) (e : Env) (h : Heap) : Out := ifK (i == 5) (F47.P5 (F47.L5 call lf ro lf) e h) (.fail)
noncomputable def F47.U5 (call : CT) (lf ro : Nat) (kb5 : ByteArray → (Option Addr) → Nat → Nat → Int → Heap → Out) (i : Nat) : Option (Env → Heap → Out) := ifJ (i == 7) (some (F47.PJ7 (F47.J7 call lf ro kb5))) (ifJ (i == 3) (some (F47.PJ3 (F47.J3 call lf ro))) (none))

noncomputable def F47.C5 (call : CT) (lf ro : Nat) : COut → Out := blockK 0 (seqH Tryd.prog call ro (F47.Ht call lf ro) (F47.Ut call lf ro) (sub (codeOf Tryd.f47) [true, true, true, true]) (endK Tryd.prog Tryd.f47))

noncomputable def F47.K5 (call : CT) (lf ro : Nat) : COut → Out := blockK 0 (seqK Tryd.prog call lf ro (sub (codeOf Tryd.f47) [true, true, true, true]) (endK Tryd.prog Tryd.f47))

noncomputable def F47.CJ3 (call : CT) (lf ro : Nat) : COut → Out := endK Tryd.prog Tryd.f47

noncomputable def F47.KJ3 (call : CT) (lf ro : Nat) : COut → Out := endK Tryd.prog Tryd.f47

noncomputable def F47.CJ7 (call : CT) (lf ro : Nat) (kb5 : ByteArray → (Option Addr) → Nat → Nat → Int → Heap → Out) : COut → Out := outK (F47.P5 kb5) (fun i e h => F47.C5 call lf ro (.exit i e h)) (fun e h => F47.C5 call lf ro (.ret e h))

noncomputable def F47.KJ7 (call : CT) (lf ro : Nat) (kb5 : ByteArray → (Option Addr) → Nat → Nat → Int → Heap → Out) : COut → Out := outK (F47.P5 kb5) (fun i e h => F47.C5 call lf ro (.exit i e h)) (fun e h => F47.C5 call lf ro (.ret e h))

theorem F47.RJ7 (call : CT) (lf ro : Nat) (kb5 : ByteArray → (Option Addr) → Nat → Nat → Int → Heap → Out) (f : Nat → Option Value) (s7 : ByteArray) (a8 : Option Addr) (l8 : Nat) (c8 : Nat) (n9 : Int) (h10 : Heap) :
    execH Tryd.prog call ro (F47.H5 call lf ro kb5) (F47.U5 call lf ro kb5) (sub (codeOf Tryd.f47) [true, true, true, false, true, false, false, true]) (EF 33 (updF (updF (updF f 0 (some (.string s7))) 4 (some (.slice a8 l8 c8))) 5 (some (.int .i64 n9)))) h10 (F47.CJ7 call lf ro kb5) = F47.J7 call lf ro kb5 s7 a8 l8 c8 n9 h10 := by kernel_rfl

theorem F47.CKJ7 (call : CT) (lf ro : Nat) (kb5 : ByteArray → (Option Addr) → Nat → Nat → Int → Heap → Out) : KLe 33 (F47.CJ7 call lf ro kb5) (F47.KJ7 call lf ro kb5) :=
  (KLe.refl _)

theorem F47.BJ7 (call : CT) (lf ro : Nat) (kb5 : ByteArray → (Option Addr) → Nat → Nat → Int → Heap → Out) : ∀ e h, Shaped 33 e → LeO (F47.PJ7 (F47.J7 call lf ro kb5) e h) (execK Tryd.prog call lf ro (sub (codeOf Tryd.f47) [true, true, true, false, true, false, false, true]) e h (F47.KJ7 call lf ro kb5)) := by
    rintro e h ⟨f, rfl⟩
    unfold F47.PJ7
    refine getK_le fun w0 g0 => ?_
    rw [EF_get (by decide)] at g0
    refine strK_le fun s113 z120 => ?_
    subst z120
    refine getK_le fun w4 g4 => ?_
    rw [EF_get (by decide)] at g4
    refine sliceK_le fun a114 l114 c114 z121 => ?_
    subst z121
    refine getK_le fun w5 g5 => ?_
    rw [EF_get (by decide)] at g5
    refine intK_le fun n115 z122 => ?_
    subst z122
    have hr := F47.RJ7 call lf ro kb5 f s113 a114 l114 c114 n115 h
    rw [updF_same g0, updF_same g4, updF_same g5] at hr
    exact cut_le (H := (F47.H5 call lf ro kb5)) (J := (F47.U5 call lf ro kb5)) (F47.CKJ7 call lf ro kb5) (hd_free rfl) hr

theorem F47.R5 (call : CT) (lf ro : Nat) (n : Nat) (f : Nat → Option Value) (s3 : ByteArray) (a4 : Option Addr) (l4 : Nat) (c4 : Nat) (n5 : Int) (h6 : Heap) :
    execH Tryd.prog call ro (F47.H5 call lf ro (F47.L5 call lf ro n)) (F47.U5 call lf ro (F47.L5 call lf ro n)) (sub (codeOf Tryd.f47) [true, true, true, false, true, false, false]) (EF 33 (updF (updF (updF f 0 (some (.string s3))) 4 (some (.slice a4 l4 c4))) 5 (some (.int .i64 n5)))) h6 (outK (F47.P5 (F47.L5 call lf ro n)) (fun i e h => F47.C5 call lf ro (.exit i e h)) (fun e h => F47.C5 call lf ro (.ret e h))) = F47.L5 call lf ro (n + 1) s3 a4 l4 c4 n5 h6 := by kernel_rfl

theorem F47.CK5 (call : CT) (lf ro : Nat) : KLe 33 (F47.C5 call lf ro) (F47.K5 call lf ro) :=
  (KLe.block (KLe.seq (H := (F47.Ht call lf ro)) (J := (F47.Ut call lf ro)) (KLe.refl _) (hd_free rfl)))

theorem F47.B5 (call : CT) (lf ro : Nat) : ∀ n e h, Shaped 33 e → LeO (F47.P5 (F47.L5 call lf ro n) e h) (loopK (execK Tryd.prog call lf ro (sub (codeOf Tryd.f47) [true, true, true, false, true, false, false])) n e h (F47.K5 call lf ro)) := by
  refine loop_le (fun e h k k' hs hk => execK_mono _ e h k k' hs hk) (kb := fun n => F47.P5 (F47.L5 call lf ro n)) (kx := fun i e h => F47.C5 call lf ro (.exit i e h)) (kr := fun e h => F47.C5 call lf ro (.ret e h)) ?_ ?_ (fun i e h hs => (F47.CK5 call lf ro).exit i e h hs) (fun e h hs => (F47.CK5 call lf ro).ret e h hs)
  · rintro e h ⟨f, rfl⟩
    unfold F47.P5
    refine getK_le fun w0 g0 => ?_
    rw [EF_get (by decide)] at g0
    refine strK_le fun s116 z126 => ?_
    subst z126
    refine getK_le fun w4 g4 => ?_
    rw [EF_get (by decide)] at g4
    refine sliceK_le fun a117 l117 c117 z127 => ?_
    subst z127
    refine getK_le fun w5 g5 => ?_
    rw [EF_get (by decide)] at g5
    refine intK_le fun n118 z128 => ?_
    subst z128
    exact LeO.refl _
  · rintro n e h ⟨f, rfl⟩
    unfold F47.P5
    refine getK_le fun w0 g0 => ?_
    rw [EF_get (by decide)] at g0
    refine strK_le fun s116 z129 => ?_
    subst z129
    refine getK_le fun w4 g4 => ?_
    rw [EF_get (by decide)] at g4
    refine sliceK_le fun a117 l117 c117 z130 => ?_
    subst z130
    refine getK_le fun w5 g5 => ?_
    rw [EF_get (by decide)] at g5
    refine intK_le fun n118 z131 => ?_
    subst z131
    have hr := F47.R5 call lf ro n f s116 a117 l117 c117 n118 h
    rw [updF_same g0, updF_same g4, updF_same g5] at hr
    exact round_le (H := (F47.H5 call lf ro (F47.L5 call lf ro n))) (J := (F47.U5 call lf ro (F47.L5 call lf ro n))) ⟨(hd_free rfl), (fun e h hs => F47.BJ7 call lf ro (F47.L5 call lf ro n) e h hs)⟩ hr

theorem F47.RJ3 (call : CT) (lf ro : Nat) (f : Nat → Option Value) (s1 : ByteArray) (h2 : Heap) :
    execH Tryd.prog call ro (F47.Ht call lf ro) (F47.Ut call lf ro) (sub (codeOf Tryd.f47) [true, true]) (EF 33 (updF f 0 (some (.string s1)))) h2 (F47.CJ3 call lf ro) = F47.J3 call lf ro s1 h2 := by kernel_rfl

theorem F47.CKJ3 (call : CT) (lf ro : Nat) : KLe 33 (F47.CJ3 call lf ro) (F47.KJ3 call lf ro) :=
  (KLe.refl _)

theorem F47.BJ3 (call : CT) (lf ro : Nat) : ∀ e h, Shaped 33 e → LeO (F47.PJ3 (F47.J3 call lf ro) e h) (execK Tryd.prog call lf ro (sub (codeOf Tryd.f47) [true, true]) e h (F47.KJ3 call lf ro)) := by
    rintro e h ⟨f, rfl⟩
    unfold F47.PJ3
    refine getK_le fun w0 g0 => ?_
    rw [EF_get (by decide)] at g0
    refine strK_le fun s119 z132 => ?_
    subst z132
    have hr := F47.RJ3 call lf ro f s119 h
    rw [updF_same g0] at hr
    exact cut_le (H := (F47.Ht call lf ro)) (J := (F47.Ut call lf ro)) (F47.CKJ3 call lf ro) ⟨(hd_free rfl), ⟨⟨(hd_free rfl), (fun e h hs => F47.B5 call lf ro  lf e h hs)⟩, (hd_free rfl)⟩⟩ hr

theorem F47.le (call : CT) (lf ro : Nat) (x0 : ByteArray) (h : Heap) : LeO (F47.t call lf ro x0 h) (bodyK Tryd.prog call lf ro Tryd.f47 [.string x0] h) :=
  body_le (c := codeOf Tryd.f47) (H := F47.Ht call lf ro) (J := F47.Ut call lf ro) rfl (Nat.le_of_ble_eq_true rfl) ⟨(hd_free rfl), ⟨(hd_free rfl), (fun e h hs => F47.BJ3 call lf ro  e h hs)⟩⟩ (by kernel_rfl)

/-! ### barscan/aztext.table: function 48 -/

noncomputable def F48.t (call : CT) (lf ro : Nat) (x0 : Int) (h : Heap) : Out :=
  ifK (x0 == 0) (pushJ h 1 [.string (⟨#[]⟩ : ByteArray)] fun h120 =>
  bindO (call ro 70 [.string wblit2] h120) fun v121 h122 =>
  sliceK v121 fun a123 l123 c123 =>
  bindO (appO Tryd.prog ro 57 57 (.slice (some ⟨h.next, 0, none⟩) 1 1) (.slice a123 l123 c123) h122) fun v124 h125 =>
  sliceK v124 fun a126 l126 c126 =>
  Out.ok (.slice a126 l126 c126) h125) (ifK (x0 == 1) (pushJ h 1 [.string (⟨#[]⟩ : ByteArray)] fun h176 =>
  bindO (call ro 70 [.string wblit3] h176) fun v177 h178 =>
  sliceK v177 fun a179 l179 c179 =>
  bindO (appO Tryd.prog ro 57 57 (.slice (some ⟨h.next, 0, none⟩) 1 1) (.slice a179 l179 c179) h178) fun v180 h181 =>
  sliceK v180 fun a182 l182 c182 =>
  Out.ok (.slice a182 l182 c182) h181) (ifK (x0 == 2) (pushJ h 1 [.string (⟨#[]⟩ : ByteArray)] fun h218 =>
  bindO (call ro 70 [.string (⟨#[32, 1, 2, 3, 4, 5, 6, 7, 8, 9, 10, 11, 12, 13, 27, 28, 29, 30, 31, 64, 92, 94, 95, 96, 124, 126, 127]⟩ : ByteArray)] h218) fun v219 h220 =>
  sliceK v219 fun a221 l221 c221 =>
  bindO (appO Tryd.prog ro 57 57 (.slice (some ⟨h.next, 0, none⟩) 1 1) (.slice a221 l221 c221) h220) fun v222 h223 =>
  sliceK v222 fun a224 l224 c224 =>
  Out.ok (.slice a224 l224 c224) h223) (ifK (x0 == 3) (pushJ h 1 [.string (⟨#[]⟩ : ByteArray), .string (⟨#[13]⟩ : ByteArray), .string (⟨#[13, 10]⟩ : ByteArray), .string (⟨#[46, 32]⟩ : ByteArray), .string (⟨#[44, 32]⟩ : ByteArray), .string (⟨#[58, 32]⟩ : ByteArray)] fun h246 =>
  bindO (call ro 70 [.string (⟨#[33, 34, 35, 36, 37, 38, 39, 40, 41, 42, 43, 44, 45, 46, 47, 58, 59, 60, 61, 62, 63, 91, 93, 123, 125]⟩ : ByteArray)] h246) fun v247 h248 =>
  sliceK v247 fun a249 l249 c249 =>
  bindO (appO Tryd.prog ro 57 57 (.slice (some ⟨h.next, 0, none⟩) 6 6) (.slice a249 l249 c249) h248) fun v250 h251 =>
  sliceK v250 fun a252 l252 c252 =>
  Out.ok (.slice a252 l252 c252) h251) (pushJ h 1 [.string (⟨#[]⟩ : ByteArray)] fun h260 =>
  bindO (call ro 70 [.string (⟨#[32, 48, 49, 50, 51, 52, 53, 54, 55, 56, 57, 44, 46]⟩ : ByteArray)] h260) fun v261 h262 =>
  sliceK v261 fun a263 l263 c263 =>
  bindO (appO Tryd.prog ro 57 57 (.slice (some ⟨h.next, 0, none⟩) 1 1) (.slice a263 l263 c263) h262) fun v264 h265 =>
  sliceK v264 fun a266 l266 c266 =>
  Out.ok (.slice a266 l266 c266) h265))))

noncomputable def F48.Ht (call : CT) (lf ro : Nat) (i : Nat) (e : Env) (h : Heap) : Out := .fail
noncomputable def F48.Ut (call : CT) (lf ro : Nat) (i : Nat) : Option (Env → Heap → Out) := none

theorem F48.le (call : CT) (lf ro : Nat) (x0 : Int) (h : Heap) : LeO (F48.t call lf ro x0 h) (bodyK Tryd.prog call lf ro Tryd.f48 [.int .i64 x0] h) :=
  body_le (c := codeOf Tryd.f48) (H := F48.Ht call lf ro) (J := F48.Ut call lf ro) rfl (Nat.le_of_ble_eq_true rfl) (hd_free rfl) (by kernel_rfl)

/-! ### (*barscan/aztext.encoder).solve: function 49 -/

noncomputable def F49.L14 (call : CT) (lf ro : Nat) (kb1 : Nat → Nat → Int → Int → Heap → Out) : Nat → Nat → Nat → Int → Int → Int → Nat → Nat → Int → Int → Heap → Out
  | 0, _, _, _, _, _, _, _, _, _, _ => .fail
  | n + 1, p74, o74, n75, n76, n77, p78, o78, n79, n80, h81 =>
  letJ (fun (h227 : Heap) =>
  (bindN (loadO Tryd.prog 59 (.pointer (some ⟨p74, o74 + 6, none⟩)) h227) fun v242 h243 =>
  bindN (loadO Tryd.prog 49 (.pointer (some ⟨p78, o78, none⟩)) h243) fun v244 h245 =>
  aggK v244 fun q246 =>
  consK q246 fun x247 q248 =>
  intK .i64 x247 fun n249 =>
  consK q248 fun x250 q251 =>
  intK .i64 x250 fun n252 =>
  nilK q251 <|
  bindO (mapSetOp Tryd.prog ro 59 v242 (.agg #[.int .i64 n249, .int .i64 n252]) (.int .i64 n77) h245) fun v253 h254 =>
  kb1 p74 o74 n75 (IntKind.i64.wrap (n80 + 1)) h254)) fun j228 =>
  letJ (fun (b261 : Bool) (h262 : Heap) =>
  (ifK b261 (bindN (call h262.next 72 [.int .i64 n79] h262) fun v280 h281 =>
  intK .i64 v280 fun n282 =>
  bindN (loadO Tryd.prog 59 (.pointer (some ⟨p74, o74 + 6, none⟩)) h281) fun v283 h284 =>
  bindN (lookupOp Tryd.prog 59 v283 (.agg #[.int .i64 (IntKind.i64.wrap (n75 + n79)), .int .i64 n76]) false h284) fun v285 h286 =>
  intK .i64 v285 fun n287 =>
  F49.L14 call lf ro kb1 n p74 o74 n75 n76 (if IntKind.i64.wrap (n282 + n287) < n77 then IntKind.i64.wrap (n282 + n287) else n77) p78 o78 (IntKind.i64.wrap (n79 + 1)) n80 h286) (j228 h262))) fun j263 =>
  bindO (call ro 55 [.int .i64 n76] h81) fun v288 h289 =>
  boolK v288 fun b290 =>
  ifK b290 (bindO (loadO Tryd.prog 22 (.pointer (some ⟨p74, o74 + 0, none⟩)) h289) fun v291 h292 =>
  sliceK v291 fun a293 l293 c293 =>
  j263 (decide (n79 ≤ (if IntKind.i64.wrap ((l293 : Int) - n75) < 2078 then IntKind.i64.wrap ((l293 : Int) - n75) else 2078))) h292) (j263 false h289)

noncomputable def F49.P14 (kb : Nat → Nat → Int → Int → Int → Nat → Nat → Int → Int → Heap → Out) (e : Env) (h : Heap) : Out :=
  getK (e.get 0) fun w0 =>
  ptrK w0 fun p294 o294 =>
  getK (e.get 1) fun w1 =>
  intK .i64 w1 fun n295 =>
  getK (e.get 4) fun w4 =>
  intK .i64 w4 fun n296 =>
  getK (e.get 5) fun w5 =>
  intK .i64 w5 fun n297 =>
  getK (e.get 6) fun w6 =>
  ptrK w6 fun p298 o298 =>
  getK (e.get 9) fun w9 =>
  intK .i64 w9 fun n299 =>
  getK (e.get 14) fun w14 =>
  intK .i64 w14 fun n300 =>
  kb p294 o294 n295 n296 n297 p298 o298 n299 n300 h

noncomputable def F49.J13 (call : CT) (lf ro : Nat) (kb1 : Nat → Nat → Int → Int → Heap → Out) (p67 : Nat) (o67 : Nat) (n68 : Int) (n69 : Int) (n70 : Int) (p71 : Nat) (o71 : Nat) (n72 : Int) (h73 : Heap) : Out :=
  F49.L14 call lf ro kb1 lf p67 o67 n68 n69 n70 p71 o71 1 n72 h73

noncomputable def F49.PJ13 (kb : Nat → Nat → Int → Int → Int → Nat → Nat → Int → Heap → Out) (e : Env) (h : Heap) : Out :=
  getK (e.get 0) fun w0 =>
  ptrK w0 fun p301 o301 =>
  getK (e.get 1) fun w1 =>
  intK .i64 w1 fun n302 =>
  getK (e.get 4) fun w4 =>
  intK .i64 w4 fun n303 =>
  getK (e.get 5) fun w5 =>
  intK .i64 w5 fun n304 =>
  getK (e.get 6) fun w6 =>
  ptrK w6 fun p305 o305 =>
  getK (e.get 14) fun w14 =>
  intK .i64 w14 fun n306 =>
  kb p301 o301 n302 n303 n304 p305 o305 n306 h

noncomputable def F49.L9 (call : CT) (lf ro : Nat) (kb1 : Nat → Nat → Int → Int → Heap → Out) : Nat → Nat → Nat → Int → Int → Int → Nat → Nat → Int → (Option Addr) → Nat → Nat → Int → Int → Heap → Out
  | 0, _, _, _, _, _, _, _, _, _, _, _, _, _, _ => .fail
  | n + 1, p57, o57, n58, n59, n60, p61, o61, n62, a63, l63, c63, n64, n65, h66 =>
  ifK (decide (n65 < n64)) (bindO (idxO Tryd.prog 50 (.slice a63 l63 c63) (.int .i64 n65) h66) fun v608 h609 =>
  bindO (loadO Tryd.prog 53 v608 h609) fun v610 h611 =>
  aggK v610 fun q612 =>
  consK q612 fun x613 q614 =>
  sliceK x613 fun a615 l615 c615 =>
  consK q614 fun x616 q617 =>
  sliceK x616 fun a618 l618 c618 =>
  consK q617 fun x619 q620 =>
  intK .i64 x619 fun n621 =>
  consK q620 fun x622 q623 =>
  intK .i64 x622 fun n624 =>
  consK q623 fun x625 q626 =>
  intK .i64 x625 fun n627 =>
  nilK q626 <|
  pushJ h611 1 [.slice none 0 0, .slice none 0 0, .int .i64 0, .int .i64 0, .int .i64 0] fun h628 =>
  bindO (storeO Tryd.prog ro 53 (.pointer (some ⟨h611.next, 0, none⟩)) (.agg #[.slice a615 l615 c615, .slice a618 l618 c618, .int .i64 n621, .int .i64 n624, .int .i64 n627]) h628) fun v629 h630 =>
  bindN (loadO Tryd.prog 53 (.pointer (some ⟨h611.next, 0, none⟩)) h630) fun v666 h667 =>
  aggK v666 fun q668 =>
  consK q668 fun x669 q670 =>
  sliceK x669 fun a671 l671 c671 =>
  consK q670 fun x672 q673 =>
  sliceK x672 fun a674 l674 c674 =>
  consK q673 fun x675 q676 =>
  intK .i64 x675 fun n677 =>
  consK q676 fun x678 q679 =>
  intK .i64 x678 fun n680 =>
  consK q679 fun x681 q682 =>
  intK .i64 x681 fun n683 =>
  nilK q682 <|
  bindN (call h667.next 31 [.agg #[.slice a671 l671 c671, .slice a674 l674 c674, .int .i64 n677, .int .i64 n680, .int .i64 n683]] h667) fun v684 h685 =>
  intK .i64 v684 fun n686 =>
  bindN (loadO Tryd.prog 59 (.pointer (some ⟨p57, o57 + 6, none⟩)) h685) fun v687 h688 =>
  bindN (loadO Tryd.prog 49 (.pointer (some ⟨h611.next, 3, none⟩)) h688) fun v689 h690 =>
  aggK v689 fun q691 =>
  consK q691 fun x692 q693 =>
  intK .i64 x692 fun n694 =>
  consK q693 fun x695 q696 =>
  intK .i64 x695 fun n697 =>
  nilK q696 <|
  bindN (lookupOp Tryd.prog 59 v687 (.agg #[.int .i64 n694, .int .i64 n697]) false h690) fun v698 h699 =>
  intK .i64 v698 fun n700 =>
  F49.L9 call lf ro kb1 n p57 o57 n58 n59 (if IntKind.i64.wrap (n686 + n700) < n60 then IntKind.i64.wrap (n686 + n700) else n60) p61 o61 n62 a63 l63 c63 n64 (IntKind.i64.wrap (n65 + 1)) h699) (F49.J13 call lf ro kb1 p57 o57 n58 n59 n60 p61 o61 n62 h66)

noncomputable def F49.P9 (kb : Nat → Nat → Int → Int → Int → Nat → Nat → Int → (Option Addr) → Nat → Nat → Int → Int → Heap → Out) (e : Env) (h : Heap) : Out :=
  getK (e.get 0) fun w0 =>
  ptrK w0 fun p701 o701 =>
  getK (e.get 1) fun w1 =>
  intK .i64 w1 fun n702 =>
  getK (e.get 4) fun w4 =>
  intK .i64 w4 fun n703 =>
  getK (e.get 5) fun w5 =>
  intK .i64 w5 fun n704 =>
  getK (e.get 6) fun w6 =>
  ptrK w6 fun p705 o705 =>
  getK (e.get 14) fun w14 =>
  intK .i64 w14 fun n706 =>
  getK (e.get 36) fun w36 =>
  sliceK w36 fun a707 l707 c707 =>
  getK (e.get 37) fun w37 =>
  intK .i64 w37 fun n708 =>
  getK (e.get 38) fun w38 =>
  intK .i64 w38 fun n709 =>
  kb p701 o701 n702 n703 n704 p705 o705 n706 a707 l707 c707 n708 n709 h

noncomputable def F49.J6 (call : CT) (lf ro : Nat) (kb1 : Nat → Nat → Int → Int → Heap → Out) (p15 : Nat) (o15 : Nat) (n16 : Int) (n17 : Int) (n18 : Int) (n19 : Int) (h20 : Heap) : Out :=
  pushJ h20 1 [.int .i64 0, .int .i64 0] fun h785 =>
  bindO (storeO Tryd.prog ro 49 (.pointer (some ⟨h20.next, 0, none⟩)) (.agg #[.int .i64 n16, .int .i64 n17]) h785) fun v786 h787 =>
  bindO (loadO Tryd.prog 22 (.pointer (some ⟨p15, o15 + 0, none⟩)) h787) fun v791 h792 =>
  sliceK v791 fun a793 l793 c793 =>
  ifK (decide (n16 < (l793 : Int))) (bindO (loadO Tryd.prog 49 (.pointer (some ⟨h20.next, 0, none⟩)) h792) fun v806 h807 =>
  aggK v806 fun q808 =>
  consK q808 fun x809 q810 =>
  intK .i64 x809 fun n811 =>
  consK q810 fun x812 q813 =>
  intK .i64 x812 fun n814 =>
  nilK q813 <|
  bindO (call ro 26 [.pointer (some ⟨p15, o15, none⟩), .agg #[.int .i64 n811, .int .i64 n814]] h807) fun v815 h816 =>
  sliceK v815 fun a817 l817 c817 =>
  F49.L9 call lf ro kb1 lf p15 o15 n16 n17 n18 h20.next 0 n19 a817 l817 c817 (l817 : Int) 0 h816) (F49.J13 call lf ro kb1 p15 o15 n16 n17 n18 h20.next 0 n19 h792)

noncomputable def F49.PJ6 (kb : Nat → Nat → Int → Int → Int → Int → Heap → Out) (e : Env) (h : Heap) : Out :=
  getK (e.get 0) fun w0 =>
  ptrK w0 fun p818 o818 =>
  getK (e.get 1) fun w1 =>
  intK .i64 w1 fun n819 =>
  getK (e.get 4) fun w4 =>
  intK .i64 w4 fun n820 =>
  getK (e.get 5) fun w5 =>
  intK .i64 w5 fun n821 =>
  getK (e.get 14) fun w14 =>
  intK .i64 w14 fun n822 =>
  kb p818 o818 n819 n820 n821 n822 h

noncomputable def F49.J2 (call : CT) (lf ro : Nat) (kb1 : Nat → Nat → Int → Int → Heap → Out) (p5 : Nat) (o5 : Nat) (n6 : Int) (n7 : Int) (h8 : Heap) : Out :=
  bindO (loadO Tryd.prog 22 (.pointer (some ⟨p5, o5 + 0, none⟩)) h8) fun v826 h827 =>
  sliceK v826 fun a828 l828 c828 =>
  ifK (n6 == (l828 : Int)) (F49.J6 call lf ro kb1 p5 o5 n6 n7 0 n7 h827) (F49.J6 call lf ro kb1 p5 o5 n6 n7 1099511627776 n7 h827)

noncomputable def F49.PJ2 (kb : Nat → Nat → Int → Int → Heap → Out) (e : Env) (h : Heap) : Out :=
  getK (e.get 0) fun w0 =>
  ptrK w0 fun p829 o829 =>
  getK (e.get 1) fun w1 =>
  intK .i64 w1 fun n830 =>
  getK (e.get 14) fun w14 =>
  intK .i64 w14 fun n831 =>
  kb p829 o829 n830 n831 h

noncomputable def F49.L26 (call : CT) (lf ro : Nat) (kb20 : Nat → Nat → Int → Int → Heap → Out) (kb22 : Nat → Nat → Int → Int → Int → Heap → Out) : Nat → Nat → Nat → Int → Nat → Nat → Int → Int → (Option Addr) → Nat → Nat → Int → Int → Heap → Out
  | 0, _, _, _, _, _, _, _, _, _, _, _, _, _ => .fail
  | n + 1, p883, o883, n884, p885, o885, n886, n887, a888, l888, c888, n889, n890, h891 =>
  letJ ((kb22 p883 o883 n884 n886 (IntKind.i64.wrap (n887 + 1)) h891)) fun j5069 =>
  ifK (decide (n890 < n889)) (bindO (idxO Tryd.prog 50 (.slice a888 l888 c888) (.int .i64 n890) h891) fun v5201 h5202 =>
  bindO (loadO Tryd.prog 53 v5201 h5202) fun v5203 h5204 =>
  aggK v5203 fun q5205 =>
  consK q5205 fun x5206 q5207 =>
  sliceK x5206 fun a5208 l5208 c5208 =>
  consK q5207 fun x5209 q5210 =>
  sliceK x5209 fun a5211 l5211 c5211 =>
  consK q5210 fun x5212 q5213 =>
  intK .i64 x5212 fun n5214 =>
  consK q5213 fun x5215 q5216 =>
  intK .i64 x5215 fun n5217 =>
  consK q5216 fun x5218 q5219 =>
  intK .i64 x5218 fun n5220 =>
  nilK q5219 <|
  pushJ h5204 1 [.slice none 0 0, .slice none 0 0, .int .i64 0, .int .i64 0, .int .i64 0] fun h5221 =>
  bindO (storeO Tryd.prog ro 53 (.pointer (some ⟨h5204.next, 0, none⟩)) (.agg #[.slice a5208 l5208 c5208, .slice a5211 l5211 c5211, .int .i64 n5214, .int .i64 n5217, .int .i64 n5220]) h5221) fun v5222 h5223 =>
  bindN (loadO Tryd.prog 59 (.pointer (some ⟨p883, o883 + 6, none⟩)) h5223) fun v5286 h5287 =>
  bindN (loadO Tryd.prog 49 (.pointer (some ⟨p885, o885, none⟩)) h5287) fun v5288 h5289 =>
  aggK v5288 fun q5290 =>
  consK q5290 fun x5291 q5292 =>
  intK .i64 x5291 fun n5293 =>
  consK q5292 fun x5294 q5295 =>
  intK .i64 x5294 fun n5296 =>
  nilK q5295 <|
  bindN (loadO Tryd.prog 59 (.pointer (some ⟨p883, o883 + 6, none⟩)) h5289) fun v5297 h5298 =>
  bindN (loadO Tryd.prog 49 (.pointer (some ⟨p885, o885, none⟩)) h5298) fun v5299 h5300 =>
  aggK v5299 fun q5301 =>
  consK q5301 fun x5302 q5303 =>
  intK .i64 x5302 fun n5304 =>
  consK q5303 fun x5305 q5306 =>
  intK .i64 x5305 fun n5307 =>
  nilK q5306 <|
  bindN (lookupOp Tryd.prog 59 v5297 (.agg #[.int .i64 n5304, .int .i64 n5307]) false h5300) fun v5308 h5309 =>
  intK .i64 v5308 fun n5310 =>
  bindN (loadO Tryd.prog 53 (.pointer (some ⟨h5204.next, 0, none⟩)) h5309) fun v5311 h5312 =>
  aggK v5311 fun q5313 =>
  consK q5313 fun x5314 q5315 =>
  sliceK x5314 fun a5316 l5316 c5316 =>
  consK q5315 fun x5317 q5318 =>
  sliceK x5317 fun a5319 l5319 c5319 =>
  consK q5318 fun x5320 q5321 =>
  intK .i64 x5320 fun n5322 =>
  consK q5321 fun x5323 q5324 =>
  intK .i64 x5323 fun n5325 =>
  consK q5324 fun x5326 q5327 =>
  intK .i64 x5326 fun n5328 =>
  nilK q5327 <|
  bindN (call h5312.next 31 [.agg #[.slice a5316 l5316 c5316, .slice a5319 l5319 c5319, .int .i64 n5322, .int .i64 n5325, .int .i64 n5328]] h5312) fun v5329 h5330 =>
  intK .i64 v5329 fun n5331 =>
  bindN (loadO Tryd.prog 59 (.pointer (some ⟨p883, o883 + 6, none⟩)) h5330) fun v5332 h5333 =>
  bindN (loadO Tryd.prog 49 (.pointer (some ⟨h5204.next, 3, none⟩)) h5333) fun v5334 h5335 =>
  aggK v5334 fun q5336 =>
  consK q5336 fun x5337 q5338 =>
  intK .i64 x5337 fun n5339 =>
  consK q5338 fun x5340 q5341 =>
  intK .i64 x5340 fun n5342 =>
  nilK q5341 <|
  bindN (lookupOp Tryd.prog 59 v5332 (.agg #[.int .i64 n5339, .int .i64 n5342]) false h5335) fun v5343 h5344 =>
  intK .i64 v5343 fun n5345 =>
  bindO (mapSetOp Tryd.prog ro 59 v5286 (.agg #[.int .i64 n5293, .int .i64 n5296]) (.int .i64 (if IntKind.i64.wrap (n5331 + n5345) < n5310 then IntKind.i64.wrap (n5331 + n5345) else n5310)) h5344) fun v5346 h5347 =>
  F49.L26 call lf ro kb20 kb22 n p883 o883 n884 p885 o885 n886 n887 a888 l888 c888 n889 (IntKind.i64.wrap (n890 + 1)) h5347) (j5069)

noncomputable def F49.P26 (kb : Nat → Nat → Int → Nat → Nat → Int → Int → (Option Addr) → Nat → Nat → Int → Int → Heap → Out) (e : Env) (h : Heap) : Out :=
  getK (e.get 0) fun w0 =>
  ptrK w0 fun p5348 o5348 =>
  getK (e.get 1) fun w1 =>
  intK .i64 w1 fun n5349 =>
  getK (e.get 11) fun w11 =>
  ptrK w11 fun p5350 o5350 =>
  getK (e.get 93) fun w93 =>
  intK .i64 w93 fun n5351 =>
  getK (e.get 95) fun w95 =>
  intK .i64 w95 fun n5352 =>
  getK (e.get 102) fun w102 =>
  sliceK w102 fun a5353 l5353 c5353 =>
  getK (e.get 103) fun w103 =>
  intK .i64 w103 fun n5354 =>
  getK (e.get 104) fun w104 =>
  intK .i64 w104 fun n5355 =>
  kb p5348 o5348 n5349 p5350 o5350 n5351 n5352 a5353 l5353 c5353 n5354 n5355 h

noncomputable def F49.J23 (call : CT) (lf ro : Nat) (kb20 : Nat → Nat → Int → Int → Heap → Out) (kb22 : Nat → Nat → Int → Int → Int → Heap → Out) (p848 : Nat) (o848 : Nat) (n849 : Int) (n850 : Int) (n851 : Int) (h852 : Heap) : Out :=
  pushJ h852 1 [.int .i64 0, .int .i64 0] fun h5539 =>
  bindO (storeO Tryd.prog ro 49 (.pointer (some ⟨h852.next, 0, none⟩)) (.agg #[.int .i64 n849, .int .i64 n851]) h5539) fun v5540 h5541 =>
  bindO (loadO Tryd.prog 49 (.pointer (some ⟨h852.next, 0, none⟩)) h5541) fun v5554 h5555 =>
  aggK v5554 fun q5556 =>
  consK q5556 fun x5557 q5558 =>
  intK .i64 x5557 fun n5559 =>
  consK q5558 fun x5560 q5561 =>
  intK .i64 x5560 fun n5562 =>
  nilK q5561 <|
  bindO (call ro 27 [.agg #[.int .i64 n5559, .int .i64 n5562]] h5555) fun v5563 h5564 =>
  sliceK v5563 fun a5565 l5565 c5565 =>
  F49.L26 call lf ro kb20 kb22 lf p848 o848 n849 h852.next 0 n850 n851 a5565 l5565 c5565 (l5565 : Int) 0 h5564

noncomputable def F49.PJ23 (kb : Nat → Nat → Int → Int → Int → Heap → Out) (e : Env) (h : Heap) : Out :=
  getK (e.get 0) fun w0 =>
  ptrK w0 fun p5566 o5566 =>
  getK (e.get 1) fun w1 =>
  intK .i64 w1 fun n5567 =>
  getK (e.get 93) fun w93 =>
  intK .i64 w93 fun n5568 =>
  getK (e.get 95) fun w95 =>
  intK .i64 w95 fun n5569 =>
  kb p5566 o5566 n5567 n5568 n5569 h

noncomputable def F49.L22 (call : CT) (lf ro : Nat) (kb20 : Nat → Nat → Int → Int → Heap → Out) : Nat → Nat → Nat → Int → Int → Int → Heap → Out
  | 0, _, _, _, _, _, _ => .fail
  | n + 1, p843, o843, n844, n845, n846, h847 =>
  ifK (decide (n846 < 5)) (F49.J23 call lf ro kb20 (F49.L22 call lf ro kb20 n) p843 o843 n844 n845 n846 h847) (kb20 p843 o843 n844 (IntKind.i64.wrap (n845 + 1)) h847)

noncomputable def F49.P22 (kb : Nat → Nat → Int → Int → Int → Heap → Out) (e : Env) (h : Heap) : Out :=
  getK (e.get 0) fun w0 =>
  ptrK w0 fun p5570 o5570 =>
  getK (e.get 1) fun w1 =>
  intK .i64 w1 fun n5571 =>
  getK (e.get 93) fun w93 =>
  intK .i64 w93 fun n5572 =>
  getK (e.get 95) fun w95 =>
  intK .i64 w95 fun n5573 =>
  kb p5570 o5570 n5571 n5572 n5573 h

noncomputable def F49.J21 (call : CT) (lf ro : Nat) (kb20 : Nat → Nat → Int → Int → Heap → Out) (p839 : Nat) (o839 : Nat) (n840 : Int) (n841 : Int) (h842 : Heap) : Out :=
  F49.L22 call lf ro kb20 lf p839 o839 n840 n841 0 h842

noncomputable def F49.PJ21 (kb : Nat → Nat → Int → Int → Heap → Out) (e : Env) (h : Heap) : Out :=
  getK (e.get 0) fun w0 =>
  ptrK w0 fun p5574 o5574 =>
  getK (e.get 1) fun w1 =>
  intK .i64 w1 fun n5575 =>
  getK (e.get 93) fun w93 =>
  intK .i64 w93 fun n5576 =>
  kb p5574 o5574 n5575 n5576 h

noncomputable def F49.L20 (call : CT) (lf ro : Nat) : Nat → Nat → Nat → Int → Int → Heap → Out
  | 0, _, _, _, _, _ => .fail
  | n + 1, p835, o835, n836, n837, h838 =>
  ifK (decide (n837 < 5)) (F49.J21 call lf ro (F49.L20 call lf ro n) p835 o835 n836 n837 h838) (Out.ok (.tuple #[]) h838)

noncomputable def F49.P20 (kb : Nat → Nat → Int → Int → Heap → Out) (e : Env) (h : Heap) : Out :=
  getK (e.get 0) fun w0 =>
  ptrK w0 fun p5577 o5577 =>
  getK (e.get 1) fun w1 =>
  intK .i64 w1 fun n5578 =>
  getK (e.get 93) fun w93 =>
  intK .i64 w93 fun n5579 =>
  kb p5577 o5577 n5578 n5579 h

noncomputable def F49.J19 (call : CT) (lf ro : Nat) (p832 : Nat) (o832 : Nat) (n833 : Int) (h834 : Heap) : Out :=
  F49.L20 call lf ro lf p832 o832 n833 0 h834

noncomputable def F49.PJ19 (kb : Nat → Nat → Int → Heap → Out) (e : Env) (h : Heap) : Out :=
  getK (e.get 0) fun w0 =>
  ptrK w0 fun p5580 o5580 =>
  getK (e.get 1) fun w1 =>
  intK .i64 w1 fun n5581 =>
  kb p5580 o5580 n5581 h

noncomputable def F49.L1 (call : CT) (lf ro : Nat) : Nat → Nat → Nat → Int → Int → Heap → Out
  | 0, _, _, _, _, _ => .fail
  | n + 1, p1, o1, n2, n3, h4 =>
  ifK (decide (n3 < 5)) (F49.J2 call lf ro (F49.L1 call lf ro n) p1 o1 n2 n3 h4) (F49.J19 call lf ro p1 o1 n2 h4)

noncomputable def F49.P1 (kb : Nat → Nat → Int → Int → Heap → Out) (e : Env) (h : Heap) : Out :=
  getK (e.get 0) fun w0 =>
  ptrK w0 fun p5582 o5582 =>
  getK (e.get 1) fun w1 =>
  intK .i64 w1 fun n5583 =>
  getK (e.get 14) fun w14 =>
  intK .i64 w14 fun n5584 =>
  kb p5582 o5582 n5583 n5584 h

noncomputable def F49.t (call : CT) (lf ro : Nat) (px0 : Nat) (ox0 : Nat) (x1 : Int) (h : Heap) : Out :=
  F49.L1 call lf ro lf px0 ox0 x1 0 h

noncomputable def F49.Ht (call : CT) (lf ro : Nat) (i : Nat) (e : Env) (h : Heap) : Out := ifK (i == 20) (F49.P20 (F49.L20 call lf ro lf) e h) (ifK (i == 1) (F49.P1 (F49.L1 call lf ro lf) e h) (.fail))
noncomputable def F49.Ut (call : CT) (lf ro : Nat) (i : Nat) : Option (Env → Heap → Out) := ifJ (i == 19) (some (F49.PJ19 (F49.J19 call lf ro))) (none)

noncomputable def F49.H14 (call : CT) (lf ro : Nat) (kb1 : Nat → Nat → Int → Int → Heap → Out) (kb14 : Nat → Nat → Int → Int → Int → Nat → Nat → Int → Int → Heap → Out) (i : Nat) (e : Env) (h : Heap) : Out := ifK (i == 20) (F49.P20 (F49.L20 call lf ro lf) e h) (ifK (i == 14) (F49.P14 (F49.L14 call lf ro kb1 lf) e h) (ifK (i == 9) (F49.P9 (F49.L9 call lf ro kb1 lf) e h) (ifK (i == 1) (F49.P1 (F49.L1 call lf ro lf) e h) (.fail))))
noncomputable def F49.U14 (call : CT) (lf ro : Nat) (kb1 : Nat → Nat → Int → Int → Heap → Out) (kb14 : Nat → Nat → Int → Int → Int → Nat → Nat → Int → Int → Heap → Out) (i : Nat) : Option (Env → Heap → Out) := ifJ (i == 19) (some (F49.PJ19 (F49.J19 call lf ro))) (ifJ (i == 13) (some (F49.PJ13 (F49.J13 call lf ro kb1))) (ifJ (i == 6) (some (F49.PJ6 (F49.J6 call lf ro kb1))) (ifJ (i == 2) (some (F49.PJ2 (F49.J2 call lf ro kb1))) (none))))

noncomputable def F49.H9 (call : CT) (lf ro : Nat) (kb1 : Nat → Nat → Int → Int → Heap → Out) (kb9 : Nat → Nat → Int → Int → Int → Nat → Nat → Int → (Option Addr) → Nat → Nat → Int → Int → Heap → Out) (i : Nat) (e : Env) (h : Heap) : Out := ifK (i == 20) (F49.P20 (F49.L20 call lf ro lf) e h) (ifK (i == 14) (F49.P14 (F49.L14 call lf ro kb1 lf) e h) (ifK (i == 9) (F49.P9 (F49.L9 call lf ro kb1 lf) e h) (ifK (i == 1) (F49.P1 (F49.L1 call lf ro lf) e h) (.fail))))
noncomputable def F49.U9 (call : CT) (lf ro : Nat) (kb1 : Nat → Nat → Int → Int → Heap → Out) (kb9 : Nat → Nat → Int → Int → Int → Nat → Nat → Int → (Option Addr) → Nat → Nat → Int → Int → Heap → Out) (i : Nat) : Option (Env → Heap → Out) := ifJ (i == 19) (some (F49.PJ19 (F49.J19 call lf ro))) (ifJ (i == 13) (some (F49.PJ13 (F49.J13 call lf ro kb1))) (ifJ (i == 6) (some (F49.PJ6 (F49.J6 call lf ro kb1))) (ifJ (i == 2) (some (F49.PJ2 (F49.J2 call lf ro kb1))) (none))))

noncomputable def F49.H26 (call : CT) (lf ro : Nat) (kb20 : Nat → Nat → Int → Int → Heap → Out) (kb22 : Nat → Nat → Int → Int → Int → Heap → Out) (kb26 : Nat → Nat → Int → Nat → Nat → Int → Int → (Option Addr) → Nat → Nat → Int → Int → Heap → Out) (i : Nat) (e : Env) (h : Heap) : Out := ifK (i == 26) (F49.P26 (F49.L26 call lf ro kb20 kb22 lf) e h) (ifK (i == 22) (F49.P22 (F49.L22 call lf ro kb20 lf) e h) (ifK (i == 20) (F49.P20 (F49.L20 call lf ro lf) e h) (ifK (i == 1) (F49.P1 (F49.L1 call lf ro lf) e h) (.fail))))
noncomputable def F49.U26 (call : CT) (lf ro : Nat) (kb20 : Nat → Nat → Int → Int → Heap → Out) (kb22 : Nat → Nat → Int → Int → Int → Heap → Out) (kb26 : Nat → Nat → Int → Nat → Nat → Int → Int → (Option Addr) → Nat → Nat → Int → Int → Heap → Out) (i : Nat) : Option (Env → Heap → Out) := ifJ (i == 23) (some (F49.PJ23 (F49.J23 call lf ro kb20 kb22))) (ifJ (i == 21) (some (F49.PJ21 (F49.J21 call lf ro kb20))) (ifJ (i == 19) (some (F49.PJ19 (F49.J19 call lf ro))) (none)))

noncomputable def F49.H22 (call : CT) (lf ro : Nat) (kb20 : Nat → Nat → Int → Int → Heap → Out) (kb22 : Nat → Nat → Int → Int → Int → Heap → Out) (i : Nat) (e : Env) (h : Heap) : Out := ifK (i == 26) (F49.P26 (F49.L26 call lf ro kb20 kb22 lf) e h) (ifK (i == 22) (F49.P22 (F49.L22 call lf ro kb20 lf) e h) (ifK (i == 20) (F49.P20 (F49.L20 call lf ro lf) e h) (ifK (i == 1) (F49.P1 (F49.L1 call lf ro lf) e h) (.fail))))
noncomputable def F49.U22 (call : CT) (lf ro : Nat) (kb20 : Nat → Nat → Int → Int → Heap → Out) (kb22 : Nat → Nat → Int → Int → Int → Heap → Out) (i : Nat) : Option (Env → Heap → Out) := ifJ (i == 23) (some (F49.PJ23 (F49.J23 call lf ro kb20 kb22))) (ifJ (i == 21) (some (F49.PJ21 (F49.J21 call lf ro kb20))) (ifJ (i == 19) (some (F49.PJ19 (F49.J19 call lf ro))) (none)))

noncomputable def F49.H20 (call : CT) (lf ro : Nat) (kb20 : Nat → Nat → Int → Int → Heap → Out) (i : Nat) (e : Env) (h : Heap) : Out := ifK (i == 22) (F49.P22 (F49.L22 call lf ro kb20 lf) e h) (ifK (i == 20) (F49.P20 (F49.L20 call lf ro lf) e h) (ifK (i == 1) (F49.P1 (F49.L1 call lf ro lf) e h) (.fail)))
noncomputable def F49.U20 (call : CT) (lf ro : Nat) (kb20 : Nat → Nat → Int → Int → Heap → Out) (i : Nat) : Option (Env → Heap → Out) := ifJ (i == 21) (some (F49.PJ21 (F49.J21 call lf ro kb20))) (ifJ (i == 19) (some (F49.PJ19 (F49.J19 call lf ro))) (none))

noncomputable def F49.H1 (call : CT) (lf ro : Nat) (kb1 : Nat → Nat → Int → Int → Heap → Out) (i : Nat) (e : Env) (h : Heap) : Out := ifK (i == 20) (F49.P20 (F49.L20 call lf ro lf) e h) (ifK (i == 14) (F49.P14 (F49.L14 call lf ro kb1 lf) e h) (ifK (i == 9) (F49.P9 (F49.L9 call lf ro kb1 lf) e h) (ifK (i == 1) (F49.P1 (F49.L1 call lf ro lf) e h) (.fail))))
noncomputable def F49.U1 (call : CT) (lf ro : Nat) (kb1 : Nat → Nat → Int → Int → Heap → Out) (i : Nat) : Option (Env → Heap → Out) := ifJ (i == 19) (some (F49.PJ19 (F49.J19 call lf ro))) (ifJ (i == 13) (some (F49.PJ13 (F49.J13 call lf ro kb1))) (ifJ (i == 6) (some (F49.PJ6 (F49.J6 call lf ro kb1))) (ifJ (i == 2) (some (F49.PJ2 (F49.J2 call lf ro kb1))) (none))))

noncomputable def F49.C20 (call : CT) (lf ro : Nat) : COut → Out := blockK 6 (endK Tryd.prog Tryd.f49)

noncomputable def F49.K20 (call : CT) (lf ro : Nat) : COut → Out := blockK 6 (endK Tryd.prog Tryd.f49)

noncomputable def F49.C1 (call : CT) (lf ro : Nat) : COut → Out := blockK 0 (seqH Tryd.prog call ro (F49.Ht call lf ro) (F49.Ut call lf ro) (sub (codeOf Tryd.f49) [true]) (endK Tryd.prog Tryd.f49))

noncomputable def F49.K1 (call : CT) (lf ro : Nat) : COut → Out := blockK 0 (seqK Tryd.prog call lf ro (sub (codeOf Tryd.f49) [true]) (endK Tryd.prog Tryd.f49))

noncomputable def F49.CJ19 (call : CT) (lf ro : Nat) : COut → Out := endK Tryd.prog Tryd.f49

noncomputable def F49.KJ19 (call : CT) (lf ro : Nat) : COut → Out := endK Tryd.prog Tryd.f49

noncomputable def F49.C14 (call : CT) (lf ro : Nat) (kb1 : Nat → Nat → Int → Int → Heap → Out) : COut → Out := blockK 4 (seqH Tryd.prog call ro (F49.H1 call lf ro kb1) (F49.U1 call lf ro kb1) (sub (codeOf Tryd.f49) [false, true, false, false, true, true, false, false, true, true, true, true, true, true]) (blockK 1 (seqH Tryd.prog call ro (F49.H1 call lf ro kb1) (F49.U1 call lf ro kb1) (sub (codeOf Tryd.f49) [false, true, false, false, true, true, true]) (outK (F49.P1 kb1) (fun i e h => F49.C1 call lf ro (.exit i e h)) (fun e h => F49.C1 call lf ro (.ret e h))))))

noncomputable def F49.K14 (call : CT) (lf ro : Nat) (kb1 : Nat → Nat → Int → Int → Heap → Out) : COut → Out := blockK 4 (seqK Tryd.prog call lf ro (sub (codeOf Tryd.f49) [false, true, false, false, true, true, false, false, true, true, true, true, true, true]) (blockK 1 (seqK Tryd.prog call lf ro (sub (codeOf Tryd.f49) [false, true, false, false, true, true, true]) (outK (F49.P1 kb1) (fun i e h => F49.C1 call lf ro (.exit i e h)) (fun e h => F49.C1 call lf ro (.ret e h))))))

noncomputable def F49.C9 (call : CT) (lf ro : Nat) (kb1 : Nat → Nat → Int → Int → Heap → Out) : COut → Out := blockK 2 (seqH Tryd.prog call ro (F49.H1 call lf ro kb1) (F49.U1 call lf ro kb1) (sub (codeOf Tryd.f49) [false, true, false, false, true, true, false, false, true, true, true, true, true]) (blockK 1 (seqH Tryd.prog call ro (F49.H1 call lf ro kb1) (F49.U1 call lf ro kb1) (sub (codeOf Tryd.f49) [false, true, false, false, true, true, true]) (outK (F49.P1 kb1) (fun i e h => F49.C1 call lf ro (.exit i e h)) (fun e h => F49.C1 call lf ro (.ret e h))))))

noncomputable def F49.K9 (call : CT) (lf ro : Nat) (kb1 : Nat → Nat → Int → Int → Heap → Out) : COut → Out := blockK 2 (seqK Tryd.prog call lf ro (sub (codeOf Tryd.f49) [false, true, false, false, true, true, false, false, true, true, true, true, true]) (blockK 1 (seqK Tryd.prog call lf ro (sub (codeOf Tryd.f49) [false, true, false, false, true, true, true]) (outK (F49.P1 kb1) (fun i e h => F49.C1 call lf ro (.exit i e h)) (fun e h => F49.C1 call lf ro (.ret e h))))))

noncomputable def F49.C22 (call : CT) (lf ro : Nat) (kb20 : Nat → Nat → Int → Int → Heap → Out) : COut → Out := blockK 8 (blockK 7 (seqH Tryd.prog call ro (F49.H20 call lf ro kb20) (F49.U20 call lf ro kb20) (sub (codeOf Tryd.f49) [true, true, false, false, true, true, true]) (outK (F49.P20 kb20) (fun i e h => F49.C20 call lf ro (.exit i e h)) (fun e h => F49.C20 call lf ro (.ret e h)))))

noncomputable def F49.K22 (call : CT) (lf ro : Nat) (kb20 : Nat → Nat → Int → Int → Heap → Out) : COut → Out := blockK 8 (blockK 7 (seqK Tryd.prog call lf ro (sub (codeOf Tryd.f49) [true, true, false, false, true, true, true]) (outK (F49.P20 kb20) (fun i e h => F49.C20 call lf ro (.exit i e h)) (fun e h => F49.C20 call lf ro (.ret e h)))))

noncomputable def F49.CJ13 (call : CT) (lf ro : Nat) (kb1 : Nat → Nat → Int → Int → Heap → Out) : COut → Out := blockK 1 (seqH Tryd.prog call ro (F49.H1 call lf ro kb1) (F49.U1 call lf ro kb1) (sub (codeOf Tryd.f49) [false, true, false, false, true, true, true]) (outK (F49.P1 kb1) (fun i e h => F49.C1 call lf ro (.exit i e h)) (fun e h => F49.C1 call lf ro (.ret e h))))

noncomputable def F49.KJ13 (call : CT) (lf ro : Nat) (kb1 : Nat → Nat → Int → Int → Heap → Out) : COut → Out := blockK 1 (seqK Tryd.prog call lf ro (sub (codeOf Tryd.f49) [false, true, false, false, true, true, true]) (outK (F49.P1 kb1) (fun i e h => F49.C1 call lf ro (.exit i e h)) (fun e h => F49.C1 call lf ro (.ret e h))))

noncomputable def F49.CJ6 (call : CT) (lf ro : Nat) (kb1 : Nat → Nat → Int → Int → Heap → Out) : COut → Out := blockK 1 (seqH Tryd.prog call ro (F49.H1 call lf ro kb1) (F49.U1 call lf ro kb1) (sub (codeOf Tryd.f49) [false, true, false, false, true, true, true]) (outK (F49.P1 kb1) (fun i e h => F49.C1 call lf ro (.exit i e h)) (fun e h => F49.C1 call lf ro (.ret e h))))

noncomputable def F49.KJ6 (call : CT) (lf ro : Nat) (kb1 : Nat → Nat → Int → Int → Heap → Out) : COut → Out := blockK 1 (seqK Tryd.prog call lf ro (sub (codeOf Tryd.f49) [false, true, false, false, true, true, true]) (outK (F49.P1 kb1) (fun i e h => F49.C1 call lf ro (.exit i e h)) (fun e h => F49.C1 call lf ro (.ret e h))))

noncomputable def F49.CJ2 (call : CT) (lf ro : Nat) (kb1 : Nat → Nat → Int → Int → Heap → Out) : COut → Out := outK (F49.P1 kb1) (fun i e h => F49.C1 call lf ro (.exit i e h)) (fun e h => F49.C1 call lf ro (.ret e h))

noncomputable def F49.KJ2 (call : CT) (lf ro : Nat) (kb1 : Nat → Nat → Int → Int → Heap → Out) : COut → Out := outK (F49.P1 kb1) (fun i e h => F49.C1 call lf ro (.exit i e h)) (fun e h => F49.C1 call lf ro (.ret e h))

noncomputable def F49.CJ21 (call : CT) (lf ro : Nat) (kb20 : Nat → Nat → Int → Int → Heap → Out) : COut → Out := outK (F49.P20 kb20) (fun i e h => F49.C20 call lf ro (.exit i e h)) (fun e h => F49.C20 call lf ro (.ret e h))

noncomputable def F49.KJ21 (call : CT) (lf ro : Nat) (kb20 : Nat → Nat → Int → Int → Heap → Out) : COut → Out := outK (F49.P20 kb20) (fun i e h => F49.C20 call lf ro (.exit i e h)) (fun e h => F49.C20 call lf ro (.ret e h))

noncomputable def F49.C26 (call : CT) (lf ro : Nat) (kb20 : Nat → Nat → Int → Int → Heap → Out) (kb22 : Nat → Nat → Int → Int → Int → Heap → Out) : COut → Out := blockK 10 (blockK 9 (seqH Tryd.prog call ro (F49.H22 call lf ro kb20 kb22) (F49.U22 call lf ro kb20 kb22) (sub (codeOf Tryd.f49) [true, true, false, false, true, true, false, false, true, false, false, true, true, true]) (outK (F49.P22 kb22) (fun i e h => F49.C22 call lf ro kb20 (.exit i e h)) (fun e h => F49.C22 call lf ro kb20 (.ret e h)))))

noncomputable def F49.K26 (call : CT) (lf ro : Nat) (kb20 : Nat → Nat → Int → Int → Heap → Out) (kb22 : Nat → Nat → Int → Int → Int → Heap → Out) : COut → Out := blockK 10 (blockK 9 (seqK Tryd.prog call lf ro (sub (codeOf Tryd.f49) [true, true, false, false, true, true, false, false, true, false, false, true, true, true]) (outK (F49.P22 kb22) (fun i e h => F49.C22 call lf ro kb20 (.exit i e h)) (fun e h => F49.C22 call lf ro kb20 (.ret e h)))))

noncomputable def F49.CJ23 (call : CT) (lf ro : Nat) (kb20 : Nat → Nat → Int → Int → Heap → Out) (kb22 : Nat → Nat → Int → Int → Int → Heap → Out) : COut → Out := outK (F49.P22 kb22) (fun i e h => F49.C22 call lf ro kb20 (.exit i e h)) (fun e h => F49.C22 call lf ro kb20 (.ret e h))

noncomputable def F49.KJ23 (call : CT) (lf ro : Nat) (kb20 : Nat → Nat → Int → Int → Heap → Out) (kb22 : Nat → Nat → Int → Int → Int → Heap → Out) : COut → Out := outK (F49.P22 kb22) (fun i e h => F49.C22 call lf ro kb20 (.exit i e h)) (fun e h => F49.C22 call lf ro kb20 (.ret e h))

theorem F49.R14 (call : CT) (lf ro : Nat) (kb1 : Nat → Nat → Int → Int → Heap → Out) (n : Nat) (f : Nat → Option Value) (p74 : Nat) (o74 : Nat) (n75 : Int) (n76 : Int) (n77 : Int) (p78 : Nat) (o78 : Nat) (n79 : Int) (n80 : Int) (h81 : Heap) :
    execH Tryd.prog call ro (F49.H14 call lf ro kb1 (F49.L14 call lf ro kb1 n)) (F49.U14 call lf ro kb1 (F49.L14 call lf ro kb1 n)) (sub (codeOf Tryd.f49) [false, true, false, false, true, true, false, false, true, true, true, true, true, false, true, false, false]) (EF 133 (updF (updF (updF (updF (updF (updF (updF f 0 (some (.pointer (some ⟨p74, o74, none⟩)))) 1 (some (.int .i64 n75))) 4 (some (.int .i64 n76))) 5 (some (.int .i64 n77))) 6 (some (.pointer (some ⟨p78, o78, none⟩)))) 9 (some (.int .i64 n79))) 14 (some (.int .i64 n80)))) h81 (outK (F49.P14 (F49.L14 call lf ro kb1 n)) (fun i e h => F49.C14 call lf ro kb1 (.exit i e h)) (fun e h => F49.C14 call lf ro kb1 (.ret e h))) = F49.L14 call lf ro kb1 (n + 1) p74 o74 n75 n76 n77 p78 o78 n79 n80 h81 := by kernel_rfl

theorem F49.CK14 (call : CT) (lf ro : Nat) (kb1 : Nat → Nat → Int → Int → Heap → Out) : KLe 133 (F49.C14 call lf ro kb1) (F49.K14 call lf ro kb1) :=
  (KLe.block (KLe.seq (H := (F49.H1 call lf ro kb1)) (J := (F49.U1 call lf ro kb1)) (KLe.block (KLe.seq (H := (F49.H1 call lf ro kb1)) (J := (F49.U1 call lf ro kb1)) (KLe.refl _) (hd_free rfl))) (hd_free rfl)))

theorem F49.B14 (call : CT) (lf ro : Nat) (kb1 : Nat → Nat → Int → Int → Heap → Out) : ∀ n e h, Shaped 133 e → LeO (F49.P14 (F49.L14 call lf ro kb1 n) e h) (loopK (execK Tryd.prog call lf ro (sub (codeOf Tryd.f49) [false, true, false, false, true, true, false, false, true, true, true, true, true, false, true, false, false])) n e h (F49.K14 call lf ro kb1)) := by
  refine loop_le (fun e h k k' hs hk => execK_mono _ e h k k' hs hk) (kb := fun n => F49.P14 (F49.L14 call lf ro kb1 n)) (kx := fun i e h => F49.C14 call lf ro kb1 (.exit i e h)) (kr := fun e h => F49.C14 call lf ro kb1 (.ret e h)) ?_ ?_ (fun i e h hs => (F49.CK14 call lf ro kb1).exit i e h hs) (fun e h hs => (F49.CK14 call lf ro kb1).ret e h hs)
  · rintro e h ⟨f, rfl⟩
    unfold F49.P14
    refine getK_le fun w0 g0 => ?_
    rw [EF_get (by decide)] at g0
    refine ptrK_le fun p294 o294 z5585 => ?_
    subst z5585
    refine getK_le fun w1 g1 => ?_
    rw [EF_get (by decide)] at g1
    refine intK_le fun n295 z5586 => ?_
    subst z5586
    refine getK_le fun w4 g4 => ?_
    rw [EF_get (by decide)] at g4
    refine intK_le fun n296 z5587 => ?_
    subst z5587
    refine getK_le fun w5 g5 => ?_
    rw [EF_get (by decide)] at g5
    refine intK_le fun n297 z5588 => ?_
    subst z5588
    refine getK_le fun w6 g6 => ?_
    rw [EF_get (by decide)] at g6
    refine ptrK_le fun p298 o298 z5589 => ?_
    subst z5589
    refine getK_le fun w9 g9 => ?_
    rw [EF_get (by decide)] at g9
    refine intK_le fun n299 z5590 => ?_
    subst z5590
    refine getK_le fun w14 g14 => ?_
    rw [EF_get (by decide)] at g14
    refine intK_le fun n300 z5591 => ?_
    subst z5591
    exact LeO.refl _
  · rintro n e h ⟨f, rfl⟩
    unfold F49.P14
    refine getK_le fun w0 g0 => ?_
    rw [EF_get (by decide)] at g0
    refine ptrK_le fun p294 o294 z5592 => ?_
    subst z5592
    refine getK_le fun w1 g1 => ?_
    rw [EF_get (by decide)] at g1
    refine intK_le fun n295 z5593 => ?_
    subst z5593
    refine getK_le fun w4 g4 => ?_
    rw [EF_get (by decide)] at g4
    refine intK_le fun n296 z5594 => ?_
    subst z5594
    refine getK_le fun w5 g5 => ?_
    rw [EF_get (by decide)] at g5
    refine intK_le fun n297 z5595 => ?_
    subst z5595
    refine getK_le fun w6 g6 => ?_
    rw [EF_get (by decide)] at g6
    refine ptrK_le fun p298 o298 z5596 => ?_
    subst z5596
    refine getK_le fun w9 g9 => ?_
    rw [EF_get (by decide)] at g9
    refine intK_le fun n299 z5597 => ?_
    subst z5597
    refine getK_le fun w14 g14 => ?_
    rw [EF_get (by decide)] at g14
    refine intK_le fun n300 z5598 => ?_
    subst z5598
    have hr := F49.R14 call lf ro kb1 n f p294 o294 n295 n296 n297 p298 o298 n299 n300 h
    rw [updF_same g0, updF_same g1, updF_same g4, updF_same g5, updF_same g6, updF_same g9, updF_same g14] at hr
    exact round_le (H := (F49.H14 call lf ro kb1 (F49.L14 call lf ro kb1 n))) (J := (F49.U14 call lf ro kb1 (F49.L14 call lf ro kb1 n))) (hd_free rfl) hr

theorem F49.RJ13 (call : CT) (lf ro : Nat) (kb1 : Nat → Nat → Int → Int → Heap → Out) (f : Nat → Option Value) (p67 : Nat) (o67 : Nat) (n68 : Int) (n69 : Int) (n70 : Int) (p71 : Nat) (o71 : Nat) (n72 : Int) (h73 : Heap) :
    execH Tryd.prog call ro (F49.H1 call lf ro kb1) (F49.U1 call lf ro kb1) (sub (codeOf Tryd.f49) [false, true, false, false, true, true, false, false, true, true, true, true, true]) (EF 133 (updF (updF (updF (updF (updF (updF f 0 (some (.pointer (some ⟨p67, o67, none⟩)))) 1 (some (.int .i64 n68))) 4 (some (.int .i64 n69))) 5 (some (.int .i64 n70))) 6 (some (.pointer (some ⟨p71, o71, none⟩)))) 14 (some (.int .i64 n72)))) h73 (F49.CJ13 call lf ro kb1) = F49.J13 call lf ro kb1 p67 o67 n68 n69 n70 p71 o71 n72 h73 := by kernel_rfl

theorem F49.CKJ13 (call : CT) (lf ro : Nat) (kb1 : Nat → Nat → Int → Int → Heap → Out) : KLe 133 (F49.CJ13 call lf ro kb1) (F49.KJ13 call lf ro kb1) :=
  (KLe.block (KLe.seq (H := (F49.H1 call lf ro kb1)) (J := (F49.U1 call lf ro kb1)) (KLe.refl _) (hd_free rfl)))

theorem F49.BJ13 (call : CT) (lf ro : Nat) (kb1 : Nat → Nat → Int → Int → Heap → Out) : ∀ e h, Shaped 133 e → LeO (F49.PJ13 (F49.J13 call lf ro kb1) e h) (execK Tryd.prog call lf ro (sub (codeOf Tryd.f49) [false, true, false, false, true, true, false, false, true, true, true, true, true]) e h (F49.KJ13 call lf ro kb1)) := by
    rintro e h ⟨f, rfl⟩
    unfold F49.PJ13
    refine getK_le fun w0 g0 => ?_
    rw [EF_get (by decide)] at g0
    refine ptrK_le fun p301 o301 z5599 => ?_
    subst z5599
    refine getK_le fun w1 g1 => ?_
    rw [EF_get (by decide)] at g1
    refine intK_le fun n302 z5600 => ?_
    subst z5600
    refine getK_le fun w4 g4 => ?_
    rw [EF_get (by decide)] at g4
    refine intK_le fun n303 z5601 => ?_
    subst z5601
    refine getK_le fun w5 g5 => ?_
    rw [EF_get (by decide)] at g5
    refine intK_le fun n304 z5602 => ?_
    subst z5602
    refine getK_le fun w6 g6 => ?_
    rw [EF_get (by decide)] at g6
    refine ptrK_le fun p305 o305 z5603 => ?_
    subst z5603
    refine getK_le fun w14 g14 => ?_
    rw [EF_get (by decide)] at g14
    refine intK_le fun n306 z5604 => ?_
    subst z5604
    have hr := F49.RJ13 call lf ro kb1 f p301 o301 n302 n303 n304 p305 o305 n306 h
    rw [updF_same g0, updF_same g1, updF_same g4, updF_same g5, updF_same g6, updF_same g14] at hr
    exact cut_le (H := (F49.H1 call lf ro kb1)) (J := (F49.U1 call lf ro kb1)) (F49.CKJ13 call lf ro kb1) ⟨⟨(hd_free rfl), (fun e h hs => F49.B14 call lf ro kb1 lf e h hs)⟩, (hd_free rfl)⟩ hr

theorem F49.R9 (call : CT) (lf ro : Nat) (kb1 : Nat → Nat → Int → Int → Heap → Out) (n : Nat) (f : Nat → Option Value) (p57 : Nat) (o57 : Nat) (n58 : Int) (n59 : Int) (n60 : Int) (p61 : Nat) (o61 : Nat) (n62 : Int) (a63 : Option Addr) (l63 : Nat) (c63 : Nat) (n64 : Int) (n65 : Int) (h66 : Heap) :
    execH Tryd.prog call ro (F49.H9 call lf ro kb1 (F49.L9 call lf ro kb1 n)) (F49.U9 call lf ro kb1 (F49.L9 call lf ro kb1 n)) (sub (codeOf Tryd.f49) [false, true, false, false, true, true, false, false, true, true, true, true, false, true, false, true, false, false]) (EF 133 (updF (updF (updF (updF (updF (updF (updF (updF (updF f 0 (some (.pointer (some ⟨p57, o57, none⟩)))) 1 (some (.int .i64 n58))) 4 (some (.int .i64 n59))) 5 (some (.int .i64 n60))) 6 (some (.pointer (some ⟨p61, o61, none⟩)))) 14 (some (.int .i64 n62))) 36 (some (.slice a63 l63 c63))) 37 (some (.int .i64 n64))) 38 (some (.int .i64 n65)))) h66 (outK (F49.P9 (F49.L9 call lf ro kb1 n)) (fun i e h => F49.C9 call lf ro kb1 (.exit i e h)) (fun e h => F49.C9 call lf ro kb1 (.ret e h))) = F49.L9 call lf ro kb1 (n + 1) p57 o57 n58 n59 n60 p61 o61 n62 a63 l63 c63 n64 n65 h66 := by kernel_rfl

theorem F49.CK9 (call : CT) (lf ro : Nat) (kb1 : Nat → Nat → Int → Int → Heap → Out) : KLe 133 (F49.C9 call lf ro kb1) (F49.K9 call lf ro kb1) :=
  (KLe.block (KLe.seq (H := (F49.H1 call lf ro kb1)) (J := (F49.U1 call lf ro kb1)) (KLe.block (KLe.seq (H := (F49.H1 call lf ro kb1)) (J := (F49.U1 call lf ro kb1)) (KLe.refl _) (hd_free rfl))) (fun e h hs => F49.BJ13 call lf ro kb1 e h hs)))

theorem F49.B9 (call : CT) (lf ro : Nat) (kb1 : Nat → Nat → Int → Int → Heap → Out) : ∀ n e h, Shaped 133 e → LeO (F49.P9 (F49.L9 call lf ro kb1 n) e h) (loopK (execK Tryd.prog call lf ro (sub (codeOf Tryd.f49) [false, true, false, false, true, true, false, false, true, true, true, true, false, true, false, true, false, false])) n e h (F49.K9 call lf ro kb1)) := by
  refine loop_le (fun e h k k' hs hk => execK_mono _ e h k k' hs hk) (kb := fun n => F49.P9 (F49.L9 call lf ro kb1 n)) (kx := fun i e h => F49.C9 call lf ro kb1 (.exit i e h)) (kr := fun e h => F49.C9 call lf ro kb1 (.ret e h)) ?_ ?_ (fun i e h hs => (F49.CK9 call lf ro kb1).exit i e h hs) (fun e h hs => (F49.CK9 call lf ro kb1).ret e h hs)
  · rintro e h ⟨f, rfl⟩
    unfold F49.P9
    refine getK_le fun w0 g0 => ?_
    rw [EF_get (by decide)] at g0
    refine ptrK_le fun p701 o701 z5611 => ?_
    subst z5611
    refine getK_le fun w1 g1 => ?_
    rw [EF_get (by decide)] at g1
    refine intK_le fun n702 z5612 => ?_
    subst z5612
    refine getK_le fun w4 g4 => ?_
    rw [EF_get (by decide)] at g4
    refine intK_le fun n703 z5613 => ?_
    subst z5613
    refine getK_le fun w5 g5 => ?_
    rw [EF_get (by decide)] at g5
    refine intK_le fun n704 z5614 => ?_
    subst z5614
    refine getK_le fun w6 g6 => ?_
    rw [EF_get (by decide)] at g6
    refine ptrK_le fun p705 o705 z5615 => ?_
    subst z5615
    refine getK_le fun w14 g14 => ?_
    rw [EF_get (by decide)] at g14
    refine intK_le fun n706 z5616 => ?_
    subst z5616
    refine getK_le fun w36 g36 => ?_
    rw [EF_get (by decide)] at g36
    refine sliceK_le fun a707 l707 c707 z5617 => ?_
    subst z5617
    refine getK_le fun w37 g37 => ?_
    rw [EF_get (by decide)] at g37
    refine intK_le fun n708 z5618 => ?_
    subst z5618
    refine getK_le fun w38 g38 => ?_
    rw [EF_get (by decide)] at g38
    refine intK_le fun n709 z5619 => ?_
    subst z5619
    exact LeO.refl _
  · rintro n e h ⟨f, rfl⟩
    unfold F49.P9
    refine getK_le fun w0 g0 => ?_
    rw [EF_get (by decide)] at g0
    refine ptrK_le fun p701 o701 z5620 => ?_
    subst z5620
    refine getK_le fun w1 g1 => ?_
    rw [EF_get (by decide)] at g1
    refine intK_le fun n702 z5621 => ?_
    subst z5621
    refine getK_le fun w4 g4 => ?_
    rw [EF_get (by decide)] at g4
    refine intK_le fun n703 z5622 => ?_
    subst z5622
    refine getK_le fun w5 g5 => ?_
    rw [EF_get (by decide)] at g5
    refine intK_le fun n704 z5623 => ?_
    subst z5623
    refine getK_le fun w6 g6 => ?_
    rw [EF_get (by decide)] at g6
    refine ptrK_le fun p705 o705 z5624 => ?_
    subst z5624
    refine getK_le fun w14 g14 => ?_
    rw [EF_get (by decide)] at g14
    refine intK_le fun n706 z5625 => ?_
    subst z5625
    refine getK_le fun w36 g36 => ?_
    rw [EF_get (by decide)] at g36
    refine sliceK_le fun a707 l707 c707 z5626 => ?_
    subst z5626
    refine getK_le fun w37 g37 => ?_
    rw [EF_get (by decide)] at g37
    refine intK_le fun n708 z5627 => ?_
    subst z5627
    refine getK_le fun w38 g38 => ?_
    rw [EF_get (by decide)] at g38
    refine intK_le fun n709 z5628 => ?_
    subst z5628
    have hr := F49.R9 call lf ro kb1 n f p701 o701 n702 n703 n704 p705 o705 n706 a707 l707 c707 n708 n709 h
    rw [updF_same g0, updF_same g1, updF_same g4, updF_same g5, updF_same g6, updF_same g14, updF_same g36, updF_same g37, updF_same g38] at hr
    exact round_le (H := (F49.H9 call lf ro kb1 (F49.L9 call lf ro kb1 n))) (J := (F49.U9 call lf ro kb1 (F49.L9 call lf ro kb1 n))) (hd_free rfl) hr

theorem F49.RJ6 (call : CT) (lf ro : Nat) (kb1 : Nat → Nat → Int → Int → Heap → Out) (f : Nat → Option Value) (p15 : Nat) (o15 : Nat) (n16 : Int) (n17 : Int) (n18 : Int) (n19 : Int) (h20 : Heap) :
    execH Tryd.prog call ro (F49.H1 call lf ro kb1) (F49.U1 call lf ro kb1) (sub (codeOf Tryd.f49) [false, true, false, false, true, true, false, false, true, true, true]) (EF 133 (updF (updF (updF (updF (updF f 0 (some (.pointer (some ⟨p15, o15, none⟩)))) 1 (some (.int .i64 n16))) 4 (some (.int .i64 n17))) 5 (some (.int .i64 n18))) 14 (some (.int .i64 n19)))) h20 (F49.CJ6 call lf ro kb1) = F49.J6 call lf ro kb1 p15 o15 n16 n17 n18 n19 h20 := by kernel_rfl

theorem F49.CKJ6 (call : CT) (lf ro : Nat) (kb1 : Nat → Nat → Int → Int → Heap → Out) : KLe 133 (F49.CJ6 call lf ro kb1) (F49.KJ6 call lf ro kb1) :=
  (KLe.block (KLe.seq (H := (F49.H1 call lf ro kb1)) (J := (F49.U1 call lf ro kb1)) (KLe.refl _) (hd_free rfl)))

theorem F49.BJ6 (call : CT) (lf ro : Nat) (kb1 : Nat → Nat → Int → Int → Heap → Out) : ∀ e h, Shaped 133 e → LeO (F49.PJ6 (F49.J6 call lf ro kb1) e h) (execK Tryd.prog call lf ro (sub (codeOf Tryd.f49) [false, true, false, false, true, true, false, false, true, true, true]) e h (F49.KJ6 call lf ro kb1)) := by
    rintro e h ⟨f, rfl⟩
    unfold F49.PJ6
    refine getK_le fun w0 g0 => ?_
    rw [EF_get (by decide)] at g0
    refine ptrK_le fun p818 o818 z5629 => ?_
    subst z5629
    refine getK_le fun w1 g1 => ?_
    rw [EF_get (by decide)] at g1
    refine intK_le fun n819 z5630 => ?_
    subst z5630
    refine getK_le fun w4 g4 => ?_
    rw [EF_get (by decide)] at g4
    refine intK_le fun n820 z5631 => ?_
    subst z5631
    refine getK_le fun w5 g5 => ?_
    rw [EF_get (by decide)] at g5
    refine intK_le fun n821 z5632 => ?_
    subst z5632
    refine getK_le fun w14 g14 => ?_
    rw [EF_get (by decide)] at g14
    refine intK_le fun n822 z5633 => ?_
    subst z5633
    have hr := F49.RJ6 call lf ro kb1 f p818 o818 n819 n820 n821 n822 h
    rw [updF_same g0, updF_same g1, updF_same g4, updF_same g5, updF_same g14] at hr
    exact cut_le (H := (F49.H1 call lf ro kb1)) (J := (F49.U1 call lf ro kb1)) (F49.CKJ6 call lf ro kb1) ⟨(hd_free rfl), ⟨⟨(hd_free rfl), ⟨⟨(hd_free rfl), (fun e h hs => F49.B9 call lf ro kb1 lf e h hs)⟩, (hd_free rfl)⟩⟩, (fun e h hs => F49.BJ13 call lf ro kb1 e h hs)⟩⟩ hr

theorem F49.RJ2 (call : CT) (lf ro : Nat) (kb1 : Nat → Nat → Int → Int → Heap → Out) (f : Nat → Option Value) (p5 : Nat) (o5 : Nat) (n6 : Int) (n7 : Int) (h8 : Heap) :
    execH Tryd.prog call ro (F49.H1 call lf ro kb1) (F49.U1 call lf ro kb1) (sub (codeOf Tryd.f49) [false, true, false, false, true, true]) (EF 133 (updF (updF (updF f 0 (some (.pointer (some ⟨p5, o5, none⟩)))) 1 (some (.int .i64 n6))) 14 (some (.int .i64 n7)))) h8 (F49.CJ2 call lf ro kb1) = F49.J2 call lf ro kb1 p5 o5 n6 n7 h8 := by kernel_rfl

theorem F49.CKJ2 (call : CT) (lf ro : Nat) (kb1 : Nat → Nat → Int → Int → Heap → Out) : KLe 133 (F49.CJ2 call lf ro kb1) (F49.KJ2 call lf ro kb1) :=
  (KLe.refl _)

theorem F49.BJ2 (call : CT) (lf ro : Nat) (kb1 : Nat → Nat → Int → Int → Heap → Out) : ∀ e h, Shaped 133 e → LeO (F49.PJ2 (F49.J2 call lf ro kb1) e h) (execK Tryd.prog call lf ro (sub (codeOf Tryd.f49) [false, true, false, false, true, true]) e h (F49.KJ2 call lf ro kb1)) := by
    rintro e h ⟨f, rfl⟩
    unfold F49.PJ2
    refine getK_le fun w0 g0 => ?_
    rw [EF_get (by decide)] at g0
    refine ptrK_le fun p829 o829 z5639 => ?_
    subst z5639
    refine getK_le fun w1 g1 => ?_
    rw [EF_get (by decide)] at g1
    refine intK_le fun n830 z5640 => ?_
    subst z5640
    refine getK_le fun w14 g14 => ?_
    rw [EF_get (by decide)] at g14
    refine intK_le fun n831 z5641 => ?_
    subst z5641
    have hr := F49.RJ2 call lf ro kb1 f p829 o829 n830 n831 h
    rw [updF_same g0, updF_same g1, updF_same g14] at hr
    exact cut_le (H := (F49.H1 call lf ro kb1)) (J := (F49.U1 call lf ro kb1)) (F49.CKJ2 call lf ro kb1) ⟨⟨(hd_free rfl), ⟨(hd_free rfl), ⟨(hd_free rfl), (fun e h hs => F49.BJ6 call lf ro kb1 e h hs)⟩⟩⟩, (hd_free rfl)⟩ hr

theorem F49.R26 (call : CT) (lf ro : Nat) (kb20 : Nat → Nat → Int → Int → Heap → Out) (kb22 : Nat → Nat → Int → Int → Int → Heap → Out) (n : Nat) (f : Nat → Option Value) (p883 : Nat) (o883 : Nat) (n884 : Int) (p885 : Nat) (o885 : Nat) (n886 : Int) (n887 : Int) (a888 : Option Addr) (l888 : Nat) (c888 : Nat) (n889 : Int) (n890 : Int) (h891 : Heap) :
    execH Tryd.prog call ro (F49.H26 call lf ro kb20 kb22 (F49.L26 call lf ro kb20 kb22 n)) (F49.U26 call lf ro kb20 kb22 (F49.L26 call lf ro kb20 kb22 n)) (sub (codeOf Tryd.f49) [true, true, false, false, true, true, false, false, true, false, false, true, true, false, false, true, true, true, false, false]) (EF 133 (updF (updF (updF (updF (updF (updF (updF (updF f 0 (some (.pointer (some ⟨p883, o883, none⟩)))) 1 (some (.int .i64 n884))) 11 (some (.pointer (some ⟨p885, o885, none⟩)))) 93 (some (.int .i64 n886))) 95 (some (.int .i64 n887))) 102 (some (.slice a888 l888 c888))) 103 (some (.int .i64 n889))) 104 (some (.int .i64 n890)))) h891 (outK (F49.P26 (F49.L26 call lf ro kb20 kb22 n)) (fun i e h => F49.C26 call lf ro kb20 kb22 (.exit i e h)) (fun e h => F49.C26 call lf ro kb20 kb22 (.ret e h))) = F49.L26 call lf ro kb20 kb22 (n + 1) p883 o883 n884 p885 o885 n886 n887 a888 l888 c888 n889 n890 h891 := by kernel_rfl

theorem F49.CK26 (call : CT) (lf ro : Nat) (kb20 : Nat → Nat → Int → Int → Heap → Out) (kb22 : Nat → Nat → Int → Int → Int → Heap → Out) : KLe 133 (F49.C26 call lf ro kb20 kb22) (F49.K26 call lf ro kb20 kb22) :=
  (KLe.block (KLe.block (KLe.seq (H := (F49.H22 call lf ro kb20 kb22)) (J := (F49.U22 call lf ro kb20 kb22)) (KLe.refl _) (hd_free rfl))))

theorem F49.B26 (call : CT) (lf ro : Nat) (kb20 : Nat → Nat → Int → Int → Heap → Out) (kb22 : Nat → Nat → Int → Int → Int → Heap → Out) : ∀ n e h, Shaped 133 e → LeO (F49.P26 (F49.L26 call lf ro kb20 kb22 n) e h) (loopK (execK Tryd.prog call lf ro (sub (codeOf Tryd.f49) [true, true, false, false, true, true, false, false, true, false, false, true, true, false, false, true, true, true, false, false])) n e h (F49.K26 call lf ro kb20 kb22)) := by
  refine loop_le (fun e h k k' hs hk => execK_mono _ e h k k' hs hk) (kb := fun n => F49.P26 (F49.L26 call lf ro kb20 kb22 n)) (kx := fun i e h => F49.C26 call lf ro kb20 kb22 (.exit i e h)) (kr := fun e h => F49.C26 call lf ro kb20 kb22 (.ret e h)) ?_ ?_ (fun i e h hs => (F49.CK26 call lf ro kb20 kb22).exit i e h hs) (fun e h hs => (F49.CK26 call lf ro kb20 kb22).ret e h hs)
  · rintro e h ⟨f, rfl⟩
    unfold F49.P26
    refine getK_le fun w0 g0 => ?_
    rw [EF_get (by decide)] at g0
    refine ptrK_le fun p5348 o5348 z5645 => ?_
    subst z5645
    refine getK_le fun w1 g1 => ?_
    rw [EF_get (by decide)] at g1
    refine intK_le fun n5349 z5646 => ?_
    subst z5646
    refine getK_le fun w11 g11 => ?_
    rw [EF_get (by decide)] at g11
    refine ptrK_le fun p5350 o5350 z5647 => ?_
    subst z5647
    refine getK_le fun w93 g93 => ?_
    rw [EF_get (by decide)] at g93
    refine intK_le fun n5351 z5648 => ?_
    subst z5648
    refine getK_le fun w95 g95 => ?_
    rw [EF_get (by decide)] at g95
    refine intK_le fun n5352 z5649 => ?_
    subst z5649
    refine getK_le fun w102 g102 => ?_
    rw [EF_get (by decide)] at g102
    refine sliceK_le fun a5353 l5353 c5353 z5650 => ?_
    subst z5650
    refine getK_le fun w103 g103 => ?_
    rw [EF_get (by decide)] at g103
    refine intK_le fun n5354 z5651 => ?_
    subst z5651
    refine getK_le fun w104 g104 => ?_
    rw [EF_get (by decide)] at g104
    refine intK_le fun n5355 z5652 => ?_
    subst z5652
    exact LeO.refl _
  · rintro n e h ⟨f, rfl⟩
    unfold F49.P26
    refine getK_le fun w0 g0 => ?_
    rw [EF_get (by decide)] at g0
    refine ptrK_le fun p5348 o5348 z5653 => ?_
    subst z5653
    refine getK_le fun w1 g1 => ?_
    rw [EF_get (by decide)] at g1
    refine intK_le fun n5349 z5654 => ?_
    subst z5654
    refine getK_le fun w11 g11 => ?_
    rw [EF_get (by decide)] at g11
    refine ptrK_le fun p5350 o5350 z5655 => ?_
    subst z5655
    refine getK_le fun w93 g93 => ?_
    rw [EF_get (by decide)] at g93
    refine intK_le fun n5351 z5656 => ?_
    subst z5656
    refine getK_le fun w95 g95 => ?_
    rw [EF_get (by decide)] at g95
    refine intK_le fun n5352 z5657 => ?_
    subst z5657
    refine getK_le fun w102 g102 => ?_
    rw [EF_get (by decide)] at g102
    refine sliceK_le fun a5353 l5353 c5353 z5658 => ?_
    subst z5658
    refine getK_le fun w103 g103 => ?_
    rw [EF_get (by decide)] at g103
    refine intK_le fun n5354 z5659 => ?_
    subst z5659
    refine getK_le fun w104 g104 => ?_
    rw [EF_get (by decide)] at g104
    refine intK_le fun n5355 z5660 => ?_
    subst z5660
    have hr := F49.R26 call lf ro kb20 kb22 n f p5348 o5348 n5349 p5350 o5350 n5351 n5352 a5353 l5353 c5353 n5354 n5355 h
    rw [updF_same g0, updF_same g1, updF_same g11, updF_same g93, updF_same g95, updF_same g102, updF_same g103, updF_same g104] at hr
    exact round_le (H := (F49.H26 call lf ro kb20 kb22 (F49.L26 call lf ro kb20 kb22 n))) (J := (F49.U26 call lf ro kb20 kb22 (F49.L26 call lf ro kb20 kb22 n))) (hd_free rfl) hr

theorem F49.RJ23 (call : CT) (lf ro : Nat) (kb20 : Nat → Nat → Int → Int → Heap → Out) (kb22 : Nat → Nat → Int → Int → Int → Heap → Out) (f : Nat → Option Value) (p848 : Nat) (o848 : Nat) (n849 : Int) (n850 : Int) (n851 : Int) (h852 : Heap) :
    execH Tryd.prog call ro (F49.H22 call lf ro kb20 kb22) (F49.U22 call lf ro kb20 kb22) (sub (codeOf Tryd.f49) [true, true, false, false, true, true, false, false, true, false, false, true, true]) (EF 133 (updF (updF (updF (updF f 0 (some (.pointer (some ⟨p848, o848, none⟩)))) 1 (some (.int .i64 n849))) 93 (some (.int .i64 n850))) 95 (some (.int .i64 n851)))) h852 (F49.CJ23 call lf ro kb20 kb22) = F49.J23 call lf ro kb20 kb22 p848 o848 n849 n850 n851 h852 := by kernel_rfl

theorem F49.CKJ23 (call : CT) (lf ro : Nat) (kb20 : Nat → Nat → Int → Int → Heap → Out) (kb22 : Nat → Nat → Int → Int → Int → Heap → Out) : KLe 133 (F49.CJ23 call lf ro kb20 kb22) (F49.KJ23 call lf ro kb20 kb22) :=
  (KLe.refl _)

theorem F49.BJ23 (call : CT) (lf ro : Nat) (kb20 : Nat → Nat → Int → Int → Heap → Out) (kb22 : Nat → Nat → Int → Int → Int → Heap → Out) : ∀ e h, Shaped 133 e → LeO (F49.PJ23 (F49.J23 call lf ro kb20 kb22) e h) (execK Tryd.prog call lf ro (sub (codeOf Tryd.f49) [true, true, false, false, true, true, false, false, true, false, false, true, true]) e h (F49.KJ23 call lf ro kb20 kb22)) := by
    rintro e h ⟨f, rfl⟩
    unfold F49.PJ23
    refine getK_le fun w0 g0 => ?_
    rw [EF_get (by decide)] at g0
    refine ptrK_le fun p5566 o5566 z5661 => ?_
    subst z5661
    refine getK_le fun w1 g1 => ?_
    rw [EF_get (by decide)] at g1
    refine intK_le fun n5567 z5662 => ?_
    subst z5662
    refine getK_le fun w93 g93 => ?_
    rw [EF_get (by decide)] at g93
    refine intK_le fun n5568 z5663 => ?_
    subst z5663
    refine getK_le fun w95 g95 => ?_
    rw [EF_get (by decide)] at g95
    refine intK_le fun n5569 z5664 => ?_
    subst z5664
    have hr := F49.RJ23 call lf ro kb20 kb22 f p5566 o5566 n5567 n5568 n5569 h
    rw [updF_same g0, updF_same g1, updF_same g93, updF_same g95] at hr
    exact cut_le (H := (F49.H22 call lf ro kb20 kb22)) (J := (F49.U22 call lf ro kb20 kb22)) (F49.CKJ23 call lf ro kb20 kb22) ⟨⟨(hd_free rfl), ⟨(hd_free rfl), ⟨(hd_free rfl), (fun e h hs => F49.B26 call lf ro kb20 kb22 lf e h hs)⟩⟩⟩, (hd_free rfl)⟩ hr

theorem F49.R22 (call : CT) (lf ro : Nat) (kb20 : Nat → Nat → Int → Int → Heap → Out) (n : Nat) (f : Nat → Option Value) (p843 : Nat) (o843 : Nat) (n844 : Int) (n845 : Int) (n846 : Int) (h847 : Heap) :
    execH Tryd.prog call ro (F49.H22 call lf ro kb20 (F49.L22 call lf ro kb20 n)) (F49.U22 call lf ro kb20 (F49.L22 call lf ro kb20 n)) (sub (codeOf Tryd.f49) [true, true, false, false, true, true, false, false, true, false, false]) (EF 133 (updF (updF (updF (updF f 0 (some (.pointer (some ⟨p843, o843, none⟩)))) 1 (some (.int .i64 n844))) 93 (some (.int .i64 n845))) 95 (some (.int .i64 n846)))) h847 (outK (F49.P22 (F49.L22 call lf ro kb20 n)) (fun i e h => F49.C22 call lf ro kb20 (.exit i e h)) (fun e h => F49.C22 call lf ro kb20 (.ret e h))) = F49.L22 call lf ro kb20 (n + 1) p843 o843 n844 n845 n846 h847 := by kernel_rfl

theorem F49.CK22 (call : CT) (lf ro : Nat) (kb20 : Nat → Nat → Int → Int → Heap → Out) : KLe 133 (F49.C22 call lf ro kb20) (F49.K22 call lf ro kb20) :=
  (KLe.block (KLe.block (KLe.seq (H := (F49.H20 call lf ro kb20)) (J := (F49.U20 call lf ro kb20)) (KLe.refl _) (hd_free rfl))))

theorem F49.B22 (call : CT) (lf ro : Nat) (kb20 : Nat → Nat → Int → Int → Heap → Out) : ∀ n e h, Shaped 133 e → LeO (F49.P22 (F49.L22 call lf ro kb20 n) e h) (loopK (execK Tryd.prog call lf ro (sub (codeOf Tryd.f49) [true, true, false, false, true, true, false, false, true, false, false])) n e h (F49.K22 call lf ro kb20)) := by
  refine loop_le (fun e h k k' hs hk => execK_mono _ e h k k' hs hk) (kb := fun n => F49.P22 (F49.L22 call lf ro kb20 n)) (kx := fun i e h => F49.C22 call lf ro kb20 (.exit i e h)) (kr := fun e h => F49.C22 call lf ro kb20 (.ret e h)) ?_ ?_ (fun i e h hs => (F49.CK22 call lf ro kb20).exit i e h hs) (fun e h hs => (F49.CK22 call lf ro kb20).ret e h hs)
  · rintro e h ⟨f, rfl⟩
    unfold F49.P22
    refine getK_le fun w0 g0 => ?_
    rw [EF_get (by decide)] at g0
    refine ptrK_le fun p5570 o5570 z5669 => ?_
    subst z5669
    refine getK_le fun w1 g1 => ?_
    rw [EF_get (by decide)] at g1
    refine intK_le fun n5571 z5670 => ?_
    subst z5670
    refine getK_le fun w93 g93 => ?_
    rw [EF_get (by decide)] at g93
    refine intK_le fun n5572 z5671 => ?_
    subst z5671
    refine getK_le fun w95 g95 => ?_
    rw [EF_get (by decide)] at g95
    refine intK_le fun n5573 z5672 => ?_
    subst z5672
    exact LeO.refl _
  · rintro n e h ⟨f, rfl⟩
    unfold F49.P22
    refine getK_le fun w0 g0 => ?_
    rw [EF_get (by decide)] at g0
    refine ptrK_le fun p5570 o5570 z5673 => ?_
    subst z5673
    refine getK_le fun w1 g1 => ?_
    rw [EF_get (by decide)] at g1
    refine intK_le fun n5571 z5674 => ?_
    subst z5674
    refine getK_le fun w93 g93 => ?_
    rw [EF_get (by decide)] at g93
    refine intK_le fun n5572 z5675 => ?_
    subst z5675
    refine getK_le fun w95 g95 => ?_
    rw [EF_get (by decide)] at g95
    refine intK_le fun n5573 z5676 => ?_
    subst z5676
    have hr := F49.R22 call lf ro kb20 n f p5570 o5570 n5571 n5572 n5573 h
    rw [updF_same g0, updF_same g1, updF_same g93, updF_same g95] at hr
    exact round_le (H := (F49.H22 call lf ro kb20 (F49.L22 call lf ro kb20 n))) (J := (F49.U22 call lf ro kb20 (F49.L22 call lf ro kb20 n))) ⟨(hd_free rfl), ⟨(hd_free rfl), (fun e h hs => F49.BJ23 call lf ro kb20 (F49.L22 call lf ro kb20 n) e h hs)⟩⟩ hr

theorem F49.RJ21 (call : CT) (lf ro : Nat) (kb20 : Nat → Nat → Int → Int → Heap → Out) (f : Nat → Option Value) (p839 : Nat) (o839 : Nat) (n840 : Int) (n841 : Int) (h842 : Heap) :
    execH Tryd.prog call ro (F49.H20 call lf ro kb20) (F49.U20 call lf ro kb20) (sub (codeOf Tryd.f49) [true, true, false, false, true, true]) (EF 133 (updF (updF (updF f 0 (some (.pointer (some ⟨p839, o839, none⟩)))) 1 (some (.int .i64 n840))) 93 (some (.int .i64 n841)))) h842 (F49.CJ21 call lf ro kb20) = F49.J21 call lf ro kb20 p839 o839 n840 n841 h842 := by kernel_rfl

theorem F49.CKJ21 (call : CT) (lf ro : Nat) (kb20 : Nat → Nat → Int → Int → Heap → Out) : KLe 133 (F49.CJ21 call lf ro kb20) (F49.KJ21 call lf ro kb20) :=
  (KLe.refl _)

theorem F49.BJ21 (call : CT) (lf ro : Nat) (kb20 : Nat → Nat → Int → Int → Heap → Out) : ∀ e h, Shaped 133 e → LeO (F49.PJ21 (F49.J21 call lf ro kb20) e h) (execK Tryd.prog call lf ro (sub (codeOf Tryd.f49) [true, true, false, false, true, true]) e h (F49.KJ21 call lf ro kb20)) := by
    rintro e h ⟨f, rfl⟩
    unfold F49.PJ21
    refine getK_le fun w0 g0 => ?_
    rw [EF_get (by decide)] at g0
    refine ptrK_le fun p5574 o5574 z5677 => ?_
    subst z5677
    refine getK_le fun w1 g1 => ?_
    rw [EF_get (by decide)] at g1
    refine intK_le fun n5575 z5678 => ?_
    subst z5678
    refine getK_le fun w93 g93 => ?_
    rw [EF_get (by decide)] at g93
    refine intK_le fun n5576 z5679 => ?_
    subst z5679
    have hr := F49.RJ21 call lf ro kb20 f p5574 o5574 n5575 n5576 h
    rw [updF_same g0, updF_same g1, updF_same g93] at hr
    exact cut_le (H := (F49.H20 call lf ro kb20)) (J := (F49.U20 call lf ro kb20)) (F49.CKJ21 call lf ro kb20) ⟨⟨(hd_free rfl), (fun e h hs => F49.B22 call lf ro kb20 lf e h hs)⟩, (hd_free rfl)⟩ hr

theorem F49.R20 (call : CT) (lf ro : Nat) (n : Nat) (f : Nat → Option Value) (p835 : Nat) (o835 : Nat) (n836 : Int) (n837 : Int) (h838 : Heap) :
    execH Tryd.prog call ro (F49.H20 call lf ro (F49.L20 call lf ro n)) (F49.U20 call lf ro (F49.L20 call lf ro n)) (sub (codeOf Tryd.f49) [true, true, false, false]) (EF 133 (updF (updF (updF f 0 (some (.pointer (some ⟨p835, o835, none⟩)))) 1 (some (.int .i64 n836))) 93 (some (.int .i64 n837)))) h838 (outK (F49.P20 (F49.L20 call lf ro n)) (fun i e h => F49.C20 call lf ro (.exit i e h)) (fun e h => F49.C20 call lf ro (.ret e h))) = F49.L20 call lf ro (n + 1) p835 o835 n836 n837 h838 := by kernel_rfl

theorem F49.CK20 (call : CT) (lf ro : Nat) : KLe 133 (F49.C20 call lf ro) (F49.K20 call lf ro) :=
  (KLe.block (KLe.refl _))

theorem F49.B20 (call : CT) (lf ro : Nat) : ∀ n e h, Shaped 133 e → LeO (F49.P20 (F49.L20 call lf ro n) e h) (loopK (execK Tryd.prog call lf ro (sub (codeOf Tryd.f49) [true, true, false, false])) n e h (F49.K20 call lf ro)) := by
  refine loop_le (fun e h k k' hs hk => execK_mono _ e h k k' hs hk) (kb := fun n => F49.P20 (F49.L20 call lf ro n)) (kx := fun i e h => F49.C20 call lf ro (.exit i e h)) (kr := fun e h => F49.C20 call lf ro (.ret e h)) ?_ ?_ (fun i e h hs => (F49.CK20 call lf ro).exit i e h hs) (fun e h hs => (F49.CK20 call lf ro).ret e h hs)
  · rintro e h ⟨f, rfl⟩
    unfold F49.P20
    refine getK_le fun w0 g0 => ?_
    rw [EF_get (by decide)] at g0
    refine ptrK_le fun p5577 o5577 z5683 => ?_
    subst z5683
    refine getK_le fun w1 g1 => ?_
    rw [EF_get (by decide)] at g1
    refine intK_le fun n5578 z5684 => ?_
    subst z5684
    refine getK_le fun w93 g93 => ?_
    rw [EF_get (by decide)] at g93
    refine intK_le fun n5579 z5685 => ?_
    subst z5685
    exact LeO.refl _
  · rintro n e h ⟨f, rfl⟩
    unfold F49.P20
    refine getK_le fun w0 g0 => ?_
    rw [EF_get (by decide)] at g0
    refine ptrK_le fun p5577 o5577 z5686 => ?_
    subst z5686
    refine getK_le fun w1 g1 => ?_
    rw [EF_get (by decide)] at g1
    refine intK_le fun n5578 z5687 => ?_
    subst z5687
    refine getK_le fun w93 g93 => ?_
    rw [EF_get (by decide)] at g93
    refine intK_le fun n5579 z5688 => ?_
    subst z5688
    have hr := F49.R20 call lf ro n f p5577 o5577 n5578 n5579 h
    rw [updF_same g0, updF_same g1, updF_same g93] at hr
    exact round_le (H := (F49.H20 call lf ro (F49.L20 call lf ro n))) (J := (F49.U20 call lf ro (F49.L20 call lf ro n))) ⟨(hd_free rfl), ⟨(hd_free rfl), (fun e h hs => F49.BJ21 call lf ro (F49.L20 call lf ro n) e h hs)⟩⟩ hr

theorem F49.RJ19 (call : CT) (lf ro : Nat) (f : Nat → Option Value) (p832 : Nat) (o832 : Nat) (n833 : Int) (h834 : Heap) :
    execH Tryd.prog call ro (F49.Ht call lf ro) (F49.Ut call lf ro) (sub (codeOf Tryd.f49) [true]) (EF 133 (updF (updF f 0 (some (.pointer (some ⟨p832, o832, none⟩)))) 1 (some (.int .i64 n833)))) h834 (F49.CJ19 call lf ro) = F49.J19 call lf ro p832 o832 n833 h834 := by kernel_rfl

theorem F49.CKJ19 (call : CT) (lf ro : Nat) : KLe 133 (F49.CJ19 call lf ro) (F49.KJ19 call lf ro) :=
  (KLe.refl _)

theorem F49.BJ19 (call : CT) (lf ro : Nat) : ∀ e h, Shaped 133 e → LeO (F49.PJ19 (F49.J19 call lf ro) e h) (execK Tryd.prog call lf ro (sub (codeOf Tryd.f49) [true]) e h (F49.KJ19 call lf ro)) := by
    rintro e h ⟨f, rfl⟩
    unfold F49.PJ19
    refine getK_le fun w0 g0 => ?_
    rw [EF_get (by decide)] at g0
    refine ptrK_le fun p5580 o5580 z5689 => ?_
    subst z5689
    refine getK_le fun w1 g1 => ?_
    rw [EF_get (by decide)] at g1
    refine intK_le fun n5581 z5690 => ?_
    subst z5690
    have hr := F49.RJ19 call lf ro f p5580 o5580 n5581 h
    rw [updF_same g0, updF_same g1] at hr
    exact cut_le (H := (F49.Ht call lf ro)) (J := (F49.Ut call lf ro)) (F49.CKJ19 call lf ro) ⟨(hd_free rfl), (fun e h hs => F49.B20 call lf ro  lf e h hs)⟩ hr

theorem F49.R1 (call : CT) (lf ro : Nat) (n : Nat) (f : Nat → Option Value) (p1 : Nat) (o1 : Nat) (n2 : Int) (n3 : Int) (h4 : Heap) :
    execH Tryd.prog call ro (F49.H1 call lf ro (F49.L1 call lf ro n)) (F49.U1 call lf ro (F49.L1 call lf ro n)) (sub (codeOf Tryd.f49) [false, true, false, false]) (EF 133 (updF (updF (updF f 0 (some (.pointer (some ⟨p1, o1, none⟩)))) 1 (some (.int .i64 n2))) 14 (some (.int .i64 n3)))) h4 (outK (F49.P1 (F49.L1 call lf ro n)) (fun i e h => F49.C1 call lf ro (.exit i e h)) (fun e h => F49.C1 call lf ro (.ret e h))) = F49.L1 call lf ro (n + 1) p1 o1 n2 n3 h4 := by kernel_rfl

theorem F49.CK1 (call : CT) (lf ro : Nat) : KLe 133 (F49.C1 call lf ro) (F49.K1 call lf ro) :=
  (KLe.block (KLe.seq (H := (F49.Ht call lf ro)) (J := (F49.Ut call lf ro)) (KLe.refl _) (fun e h hs => F49.BJ19 call lf ro  e h hs)))

theorem F49.B1 (call : CT) (lf ro : Nat) : ∀ n e h, Shaped 133 e → LeO (F49.P1 (F49.L1 call lf ro n) e h) (loopK (execK Tryd.prog call lf ro (sub (codeOf Tryd.f49) [false, true, false, false])) n e h (F49.K1 call lf ro)) := by
  refine loop_le (fun e h k k' hs hk => execK_mono _ e h k k' hs hk) (kb := fun n => F49.P1 (F49.L1 call lf ro n)) (kx := fun i e h => F49.C1 call lf ro (.exit i e h)) (kr := fun e h => F49.C1 call lf ro (.ret e h)) ?_ ?_ (fun i e h hs => (F49.CK1 call lf ro).exit i e h hs) (fun e h hs => (F49.CK1 call lf ro).ret e h hs)
  · rintro e h ⟨f, rfl⟩
    unfold F49.P1
    refine getK_le fun w0 g0 => ?_
    rw [EF_get (by decide)] at g0
    refine ptrK_le fun p5582 o5582 z5693 => ?_
    subst z5693
    refine getK_le fun w1 g1 => ?_
    rw [EF_get (by decide)] at g1
    refine intK_le fun n5583 z5694 => ?_
    subst z5694
    refine getK_le fun w14 g14 => ?_
    rw [EF_get (by decide)] at g14
    refine intK_le fun n5584 z5695 => ?_
    subst z5695
    exact LeO.refl _
  · rintro n e h ⟨f, rfl⟩
    unfold F49.P1
    refine getK_le fun w0 g0 => ?_
    rw [EF_get (by decide)] at g0
    refine ptrK_le fun p5582 o5582 z5696 => ?_
    subst z5696
    refine getK_le fun w1 g1 => ?_
    rw [EF_get (by decide)] at g1
    refine intK_le fun n5583 z5697 => ?_
    subst z5697
    refine getK_le fun w14 g14 => ?_
    rw [EF_get (by decide)] at g14
    refine intK_le fun n5584 z5698 => ?_
    subst z5698
    have hr := F49.R1 call lf ro n f p5582 o5582 n5583 n5584 h
    rw [updF_same g0, updF_same g1, updF_same g14] at hr
    exact round_le (H := (F49.H1 call lf ro (F49.L1 call lf ro n))) (J := (F49.U1 call lf ro (F49.L1 call lf ro n))) ⟨(hd_free rfl), ⟨(hd_free rfl), (fun e h hs => F49.BJ2 call lf ro (F49.L1 call lf ro n) e h hs)⟩⟩ hr

theorem F49.le (call : CT) (lf ro : Nat) (px0 : Nat) (ox0 : Nat) (x1 : Int) (h : Heap) : LeO (F49.t call lf ro px0 ox0 x1 h) (bodyK Tryd.prog call lf ro Tryd.f49 [.pointer (some ⟨px0, ox0, none⟩), .int .i64 x1] h) :=
  body_le (c := codeOf Tryd.f49) (H := F49.Ht call lf ro) (J := F49.Ut call lf ro) rfl (Nat.le_of_ble_eq_true rfl) ⟨⟨(hd_free rfl), (fun e h hs => F49.B1 call lf ro  lf e h hs)⟩, (fun e h hs => F49.BJ19 call lf ro  e h hs)⟩ (by kernel_rfl)

/-! ### slices.Grow[[]barscan/aztext.edge,barscan/aztext.edge]: function 50 -/

noncomputable def F50.J3 (call : CT) (lf ro : Nat) (a1 : Option Addr) (l1 : Nat) (c1 : Nat) (n2 : Int) (h3 : Heap) : Out :=
  bindO (builtinOp Tryd.prog ro .cap [50] [.slice a1 l1 c1] h3) fun v7 h8 =>
  intK .i64 v7 fun n9 =>
  letJ (fun (a22 : Option Addr) (l22 : Nat) (c22 : Nat) (h23 : Heap) =>
  (Out.ok (.slice a22 l22 c22) h23)) fun j24 =>
  ifK (decide (IntKind.i64.wrap (n2 - (IntKind.i64.wrap (n9 - (l1 : Int)))) > 0)) (bindO (builtinOp Tryd.prog ro .cap [50] [.slice a1 l1 c1] h8) fun v25 h26 =>
  intK .i64 v25 fun n27 =>
  bindO (sliceO Tryd.prog 50 (.slice a1 l1 c1) none (some (.int .i64 n27)) h26) fun v28 h29 =>
  sliceK v28 fun a30 l30 c30 =>
  bindO (appO Tryd.prog ro 50 3 (.slice a30 l30 c30) (.int .i64 (IntKind.i64.wrap (n2 - (IntKind.i64.wrap (n9 - (l1 : Int)))))) h29) fun v31 h32 =>
  sliceK v31 fun a33 l33 c33 =>
  bindO (sliceO Tryd.prog 50 (.slice a33 l33 c33) none (some (.int .i64 (l1 : Int))) h32) fun v34 h35 =>
  sliceK v34 fun a36 l36 c36 =>
  j24 a36 l36 c36 h35) (j24 a1 l1 c1 h8)

noncomputable def F50.PJ3 (kb : (Option Addr) → Nat → Nat → Int → Heap → Out) (e : Env) (h : Heap) : Out :=
  getK (e.get 0) fun w0 =>
  sliceK w0 fun a37 l37 c37 =>
  getK (e.get 1) fun w1 =>
  intK .i64 w1 fun n38 =>
  kb a37 l37 c37 n38 h

noncomputable def F50.t (call : CT) (lf ro : Nat) (ax0 : Option Addr) (lx0 : Nat) (cx0 : Nat) (x1 : Int) (h : Heap) : Out :=
  ifK (decide (x1 < 0)) (Out.panic (.iface 9 (.string (⟨#[99, 97, 110, 110, 111, 116, 32, 98, 101, 32, 110, 101, 103, 97, 116, 105, 118, 101]⟩ : ByteArray))) h) (F50.J3 call lf ro ax0 lx0 cx0 x1 h)

noncomputable def F50.Ht (call : CT) (lf ro : Nat) (i : Nat) (e : Env) (h : Heap) : Out := .fail
noncomputable def F50.Ut (call : CT) (lf ro : Nat) (i : Nat) : Option (Env → Heap → Out) := ifJ (i == 3) (some (F50.PJ3 (F50.J3 call lf ro))) (none)

noncomputable def F50.CJ3 (call : CT) (lf ro : Nat) : COut → Out := endK Tryd.prog Tryd.f50

noncomputable def F50.KJ3 (call : CT) (lf ro : Nat) : COut → Out := endK Tryd.prog Tryd.f50

theorem F50.RJ3 (call : CT) (lf ro : Nat) (f : Nat → Option Value) (a1 : Option Addr) (l1 : Nat) (c1 : Nat) (n2 : Int) (h3 : Heap) :
    execH Tryd.prog call ro (F50.Ht call lf ro) (F50.Ut call lf ro) (sub (codeOf Tryd.f50) [true, true]) (EF 27 (updF (updF f 0 (some (.slice a1 l1 c1))) 1 (some (.int .i64 n2)))) h3 (F50.CJ3 call lf ro) = F50.J3 call lf ro a1 l1 c1 n2 h3 := by kernel_rfl

theorem F50.CKJ3 (call : CT) (lf ro : Nat) : KLe 27 (F50.CJ3 call lf ro) (F50.KJ3 call lf ro) :=
  (KLe.refl _)

theorem F50.BJ3 (call : CT) (lf ro : Nat) : ∀ e h, Shaped 27 e → LeO (F50.PJ3 (F50.J3 call lf ro) e h) (execK Tryd.prog call lf ro (sub (codeOf Tryd.f50) [true, true]) e h (F50.KJ3 call lf ro)) := by
    rintro e h ⟨f, rfl⟩
    unfold F50.PJ3
    refine getK_le fun w0 g0 => ?_
    rw [EF_get (by decide)] at g0
    refine sliceK_le fun a37 l37 c37 z39 => ?_
    subst z39
    refine getK_le fun w1 g1 => ?_
    rw [EF_get (by decide)] at g1
    refine intK_le fun n38 z40 => ?_
    subst z40
    have hr := F50.RJ3 call lf ro f a37 l37 c37 n38 h
    rw [updF_same g0, updF_same g1] at hr
    exact cut_le (H := (F50.Ht call lf ro)) (J := (F50.Ut call lf ro)) (F50.CKJ3 call lf ro) (hd_free rfl) hr

theorem F50.le (call : CT) (lf ro : Nat) (ax0 : Option Addr) (lx0 : Nat) (cx0 : Nat) (x1 : Int) (h : Heap) : LeO (F50.t call lf ro ax0 lx0 cx0 x1 h) (bodyK Tryd.prog call lf ro Tryd.f50 [.slice ax0 lx0 cx0, .int .i64 x1] h) :=
  body_le (c := codeOf Tryd.f50) (H := F50.Ht call lf ro) (J := F50.Ut call lf ro) rfl (Nat.le_of_ble_eq_true rfl) ⟨(hd_free rfl), ⟨(hd_free rfl), (fun e h hs => F50.BJ3 call lf ro  e h hs)⟩⟩ (by kernel_rfl)

/-! ### (*barscan/aztext.encoder).begins: function 52 -/

noncomputable def F52.t (call : CT) (lf ro : Nat) (px0 : Nat) (ox0 : Nat) (x1 : Int) (x2 : ByteArray) (h : Heap) : Out :=
  letJ (fun (b16 : Bool) (h17 : Heap) =>
  (Out.ok (.bool b16) h17)) fun j18 =>
  ifK (!(x2.toList == (⟨#[]⟩ : ByteArray).toList)) (bindN (loadO Tryd.prog 22 (.pointer (some ⟨px0, ox0 + 0, none⟩)) h) fun v19 h20 =>
  sliceK v19 fun a21 l21 c21 =>
  bindN (loadO Tryd.prog 22 (.pointer (some ⟨px0, ox0 + 0, none⟩)) h20) fun v22 h23 =>
  sliceK v22 fun a24 l24 c24 =>
  bindN (sliceO Tryd.prog 22 (.slice a21 l21 c21) (some (.int .i64 x1)) (some (.int .i64 (if IntKind.i64.wrap (x1 + 2) < (l24 : Int) then IntKind.i64.wrap (x1 + 2) else (l24 : Int)))) h23) fun v25 h26 =>
  sliceK v25 fun a27 l27 c27 =>
  bindN (conv Tryd.prog ro 22 9 (.slice a27 l27 c27) h26) fun v28 h29 =>
  strK v28 fun s30 =>
  bindO (call ro 73 [.string s30, .string x2] h29) fun v31 h32 =>
  boolK v31 fun b33 =>
  j18 b33 h32) (j18 false h)

noncomputable def F52.Ht (call : CT) (lf ro : Nat) (i : Nat) (e : Env) (h : Heap) : Out := .fail
noncomputable def F52.Ut (call : CT) (lf ro : Nat) (i : Nat) : Option (Env → Heap → Out) := none

theorem F52.le (call : CT) (lf ro : Nat) (px0 : Nat) (ox0 : Nat) (x1 : Int) (x2 : ByteArray) (h : Heap) : LeO (F52.t call lf ro px0 ox0 x1 x2 h) (bodyK Tryd.prog call lf ro Tryd.f52 [.pointer (some ⟨px0, ox0, none⟩), .int .i64 x1, .string x2] h) :=
  body_le (c := codeOf Tryd.f52) (H := F52.Ht call lf ro) (J := F52.Ut call lf ro) rfl (Nat.le_of_ble_eq_true rfl) (hd_free rfl) (by kernel_rfl)

/-! ### barscan/aztext.hasBinary: function 55 -/

noncomputable def F55.t (call : CT) (lf ro : Nat) (x0 : Int) (h : Heap) : Out :=
  letJ (fun (b1 : Bool) =>
  (Out.ok (.bool b1) h)) fun j2 =>
  ifK (x0 == 0) (j2 true) (ifK (x0 == 1) (j2 true) (j2 (x0 == 2)))

noncomputable def F55.Ht (call : CT) (lf ro : Nat) (i : Nat) (e : Env) (h : Heap) : Out := .fail
noncomputable def F55.Ut (call : CT) (lf ro : Nat) (i : Nat) : Option (Env → Heap → Out) := none

theorem F55.le (call : CT) (lf ro : Nat) (x0 : Int) (h : Heap) : LeO (F55.t call lf ro x0 h) (bodyK Tryd.prog call lf ro Tryd.f55 [.int .i64 x0] h) :=
  body_le (c := codeOf Tryd.f55) (H := F55.Ht call lf ro) (J := F55.Ut call lf ro) rfl (Nat.le_of_ble_eq_true rfl) (hd_free rfl) (by kernel_rfl)

/-! ### slices.IndexFunc[[]barscan/aztext.edge,barscan/aztext.edge]: function 56 -/

noncomputable def F56.J3 (call : CT) (lf ro : Nat) (kb2 : (Option Addr) → Nat → Nat → Value → Int → Int → Heap → Out) (a6 : Option Addr) (l6 : Nat) (c6 : Nat) (v7 : Value) (n8 : Int) (n9 : Int) (h10 : Heap) : Out :=
  bindO (idxO Tryd.prog 50 (.slice a6 l6 c6) (.int .i64 n9) h10) fun v172 h173 =>
  bindO (loadO Tryd.prog 53 v172 h173) fun v174 h175 =>
  aggK v174 fun q176 =>
  consK q176 fun x177 q178 =>
  sliceK x177 fun a179 l179 c179 =>
  consK q178 fun x180 q181 =>
  sliceK x180 fun a182 l182 c182 =>
  consK q181 fun x183 q184 =>
  intK .i64 x183 fun n185 =>
  consK q184 fun x186 q187 =>
  intK .i64 x186 fun n188 =>
  consK q187 fun x189 q190 =>
  intK .i64 x189 fun n191 =>
  nilK q190 <|
  bindO (callFO Tryd.prog call ro v7 [.agg #[.slice a179 l179 c179, .slice a182 l182 c182, .int .i64 n185, .int .i64 n188, .int .i64 n191]] h175) fun v192 h193 =>
  boolK v192 fun b194 =>
  ifK b194 (Out.ok (.int .i64 n9) h193) (kb2 a6 l6 c6 v7 n8 (IntKind.i64.wrap (n9 + 1)) h193)

noncomputable def F56.PJ3 (kb : (Option Addr) → Nat → Nat → Value → Int → Int → Heap → Out) (e : Env) (h : Heap) : Out :=
  getK (e.get 0) fun w0 =>
  sliceK w0 fun a195 l195 c195 =>
  getK (e.get 1) fun w1 =>
  getK (e.get 7) fun w7 =>
  intK .i64 w7 fun n196 =>
  getK (e.get 8) fun w8 =>
  intK .i64 w8 fun n197 =>
  kb a195 l195 c195 w1 n196 n197 h

noncomputable def F56.L2 (call : CT) (lf ro : Nat) : Nat → (Option Addr) → Nat → Nat → Value → Int → Int → Heap → Out
  | 0, _, _, _, _, _, _, _ => .fail
  | n + 1, a1, l1, c1, v2, n3, n4, h5 =>
  ifK (decide (n4 < n3)) (F56.J3 call lf ro (F56.L2 call lf ro n) a1 l1 c1 v2 n3 n4 h5) (Out.ok (.int .i64 (-1)) h5)

noncomputable def F56.P2 (kb : (Option Addr) → Nat → Nat → Value → Int → Int → Heap → Out) (e : Env) (h : Heap) : Out :=
  getK (e.get 0) fun w0 =>
  sliceK w0 fun a198 l198 c198 =>
  getK (e.get 1) fun w1 =>
  getK (e.get 7) fun w7 =>
  intK .i64 w7 fun n199 =>
  getK (e.get 8) fun w8 =>
  intK .i64 w8 fun n200 =>
  kb a198 l198 c198 w1 n199 n200 h

noncomputable def F56.t (call : CT) (lf ro : Nat) (ax0 : Option Addr) (lx0 : Nat) (cx0 : Nat) (x1 : Value) (h : Heap) : Out :=
  F56.L2 call lf ro lf ax0 lx0 cx0 x1 (lx0 : Int) 0 h

noncomputable def F56.Ht (call : CT) (lf ro : Nat) (i : Nat) (e : Env) (h : Heap) : Out := ifK (i == 2) (F56.P2 (F56.L2 call lf ro lf) e h) (.fail)
noncomputable def F56.Ut (call : CT) (lf ro : Nat) (i : Nat) : Option (Env → Heap → Out) := none

noncomputable def F56.H2 (call : CT) (lf ro : Nat) (kb2 : (Option Addr) → Nat → Nat → Value → Int → Int → Heap → Out) (i : Nat) (e : Env) (h : Heap) : Out := ifK (i == 2) (F56.P2 (F56.L2 call lf ro lf) e h) (.fail)
noncomputable def F56.U2 (call : CT) (lf ro : Nat) (kb2 : (Option Addr) → Nat → Nat → Value → Int → Int → Heap → Out) (i : Nat) : Option (Env → Heap → Out) := ifJ (i == 3) (some (F56.PJ3 (F56.J3 call lf ro kb2))) (none)

noncomputable def F56.C2 (call : CT) (lf ro : Nat) : COut → Out := blockK 0 (seqH Tryd.prog call ro (F56.Ht call lf ro) (F56.Ut call lf ro) (sub (codeOf Tryd.f56) [true, true]) (endK Tryd.prog Tryd.f56))

noncomputable def F56.K2 (call : CT) (lf ro : Nat) : COut → Out := blockK 0 (seqK Tryd.prog call lf ro (sub (codeOf Tryd.f56) [true, true]) (endK Tryd.prog Tryd.f56))

noncomputable def F56.CJ3 (call : CT) (lf ro : Nat) (kb2 : (Option Addr) → Nat → Nat → Value → Int → Int → Heap → Out) : COut → Out := outK (F56.P2 kb2) (fun i e h => F56.C2 call lf ro (.exit i e h)) (fun e h => F56.C2 call lf ro (.ret e h))

noncomputable def F56.KJ3 (call : CT) (lf ro : Nat) (kb2 : (Option Addr) → Nat → Nat → Value → Int → Int → Heap → Out) : COut → Out := outK (F56.P2 kb2) (fun i e h => F56.C2 call lf ro (.exit i e h)) (fun e h => F56.C2 call lf ro (.ret e h))

theorem F56.RJ3 (call : CT) (lf ro : Nat) (kb2 : (Option Addr) → Nat → Nat → Value → Int → Int → Heap → Out) (f : Nat → Option Value) (a6 : Option Addr) (l6 : Nat) (c6 : Nat) (v7 : Value) (n8 : Int) (n9 : Int) (h10 : Heap) :
    execH Tryd.prog call ro (F56.H2 call lf ro kb2) (F56.U2 call lf ro kb2) (sub (codeOf Tryd.f56) [true, false, true, false, false, true, true]) (EF 19 (updF (updF (updF (updF f 0 (some (.slice a6 l6 c6))) 1 (some (v7))) 7 (some (.int .i64 n8))) 8 (some (.int .i64 n9)))) h10 (F56.CJ3 call lf ro kb2) = F56.J3 call lf ro kb2 a6 l6 c6 v7 n8 n9 h10 := by kernel_rfl

theorem F56.CKJ3 (call : CT) (lf ro : Nat) (kb2 : (Option Addr) → Nat → Nat → Value → Int → Int → Heap → Out) : KLe 19 (F56.CJ3 call lf ro kb2) (F56.KJ3 call lf ro kb2) :=
  (KLe.refl _)

theorem F56.BJ3 (call : CT) (lf ro : Nat) (kb2 : (Option Addr) → Nat → Nat → Value → Int → Int → Heap → Out) : ∀ e h, Shaped 19 e → LeO (F56.PJ3 (F56.J3 call lf ro kb2) e h) (execK Tryd.prog call lf ro (sub (codeOf Tryd.f56) [true, false, true, false, false, true, true]) e h (F56.KJ3 call lf ro kb2)) := by
    rintro e h ⟨f, rfl⟩
    unfold F56.PJ3
    refine getK_le fun w0 g0 => ?_
    rw [EF_get (by decide)] at g0
    refine sliceK_le fun a195 l195 c195 z201 => ?_
    subst z201
    refine getK_le fun w1 g1 => ?_
    rw [EF_get (by decide)] at g1
    refine getK_le fun w7 g7 => ?_
    rw [EF_get (by decide)] at g7
    refine intK_le fun n196 z202 => ?_
    subst z202
    refine getK_le fun w8 g8 => ?_
    rw [EF_get (by decide)] at g8
    refine intK_le fun n197 z203 => ?_
    subst z203
    have hr := F56.RJ3 call lf ro kb2 f a195 l195 c195 w1 n196 n197 h
    rw [updF_same g0, updF_same g1, updF_same g7, updF_same g8] at hr
    exact cut_le (H := (F56.H2 call lf ro kb2)) (J := (F56.U2 call lf ro kb2)) (F56.CKJ3 call lf ro kb2) (hd_free rfl) hr

theorem F56.R2 (call : CT) (lf ro : Nat) (n : Nat) (f : Nat → Option Value) (a1 : Option Addr) (l1 : Nat) (c1 : Nat) (v2 : Value) (n3 : Int) (n4 : Int) (h5 : Heap) :
    execH Tryd.prog call ro (F56.H2 call lf ro (F56.L2 call lf ro n)) (F56.U2 call lf ro (F56.L2 call lf ro n)) (sub (codeOf Tryd.f56) [true, false, true, false, false]) (EF 19 (updF (updF (updF (updF f 0 (some (.slice a1 l1 c1))) 1 (some (v2))) 7 (some (.int .i64 n3))) 8 (some (.int .i64 n4)))) h5 (outK (F56.P2 (F56.L2 call lf ro n)) (fun i e h => F56.C2 call lf ro (.exit i e h)) (fun e h => F56.C2 call lf ro (.ret e h))) = F56.L2 call lf ro (n + 1) a1 l1 c1 v2 n3 n4 h5 := by kernel_rfl

theorem F56.CK2 (call : CT) (lf ro : Nat) : KLe 19 (F56.C2 call lf ro) (F56.K2 call lf ro) :=
  (KLe.block (KLe.seq (H := (F56.Ht call lf ro)) (J := (F56.Ut call lf ro)) (KLe.refl _) (hd_free rfl)))

theorem F56.B2 (call : CT) (lf ro : Nat) : ∀ n e h, Shaped 19 e → LeO (F56.P2 (F56.L2 call lf ro n) e h) (loopK (execK Tryd.prog call lf ro (sub (codeOf Tryd.f56) [true, false, true, false, false])) n e h (F56.K2 call lf ro)) := by
  refine loop_le (fun e h k k' hs hk => execK_mono _ e h k k' hs hk) (kb := fun n => F56.P2 (F56.L2 call lf ro n)) (kx := fun i e h => F56.C2 call lf ro (.exit i e h)) (kr := fun e h => F56.C2 call lf ro (.ret e h)) ?_ ?_ (fun i e h hs => (F56.CK2 call lf ro).exit i e h hs) (fun e h hs => (F56.CK2 call lf ro).ret e h hs)
  · rintro e h ⟨f, rfl⟩
    unfold F56.P2
    refine getK_le fun w0 g0 => ?_
    rw [EF_get (by decide)] at g0
    refine sliceK_le fun a198 l198 c198 z207 => ?_
    subst z207
    refine getK_le fun w1 g1 => ?_
    rw [EF_get (by decide)] at g1
    refine getK_le fun w7 g7 => ?_
    rw [EF_get (by decide)] at g7
    refine intK_le fun n199 z208 => ?_
    subst z208
    refine getK_le fun w8 g8 => ?_
    rw [EF_get (by decide)] at g8
    refine intK_le fun n200 z209 => ?_
    subst z209
    exact LeO.refl _
  · rintro n e h ⟨f, rfl⟩
    unfold F56.P2
    refine getK_le fun w0 g0 => ?_
    rw [EF_get (by decide)] at g0
    refine sliceK_le fun a198 l198 c198 z210 => ?_
    subst z210
    refine getK_le fun w1 g1 => ?_
    rw [EF_get (by decide)] at g1
    refine getK_le fun w7 g7 => ?_
    rw [EF_get (by decide)] at g7
    refine intK_le fun n199 z211 => ?_
    subst z211
    refine getK_le fun w8 g8 => ?_
    rw [EF_get (by decide)] at g8
    refine intK_le fun n200 z212 => ?_
    subst z212
    have hr := F56.R2 call lf ro n f a198 l198 c198 w1 n199 n200 h
    rw [updF_same g0, updF_same g1, updF_same g7, updF_same g8] at hr
    exact round_le (H := (F56.H2 call lf ro (F56.L2 call lf ro n))) (J := (F56.U2 call lf ro (F56.L2 call lf ro n))) ⟨(hd_free rfl), ⟨(hd_free rfl), (fun e h hs => F56.BJ3 call lf ro (F56.L2 call lf ro n) e h hs)⟩⟩ hr

theorem F56.le (call : CT) (lf ro : Nat) (ax0 : Option Addr) (lx0 : Nat) (cx0 : Nat) (x1 : Value) (h : Heap) : LeO (F56.t call lf ro ax0 lx0 cx0 x1 h) (bodyK Tryd.prog call lf ro Tryd.f56 [.slice ax0 lx0 cx0, x1] h) :=
  body_le (c := codeOf Tryd.f56) (H := F56.Ht call lf ro) (J := F56.Ut call lf ro) rfl (Nat.le_of_ble_eq_true rfl) ⟨(hd_free rfl), ⟨⟨(hd_free rfl), (fun e h hs => F56.B2 call lf ro  lf e h hs)⟩, (hd_free rfl)⟩⟩ (by kernel_rfl)

/-! ### barscan/barscanref27.bytes: function 58 -/

noncomputable def F58.J6 (call : CT) (lf ro : Nat) (n5 : Int) (n6 : Int) (b7 : Bool) (h8 : Heap) : Out :=
  letJ ((bindO (sliceO Tryd.prog 9 (.string (⟨#[33, 34, 35, 36, 37, 38, 39, 40, 41, 42, 43, 44, 45, 46, 47, 58, 59, 60, 61, 62, 63, 91, 93, 123, 125]⟩ : ByteArray)) (some (.int .i64 (IntKind.i64.wrap (n6 - 6)))) (some (.int .i64 (IntKind.i64.wrap (n6 - 5)))) h8) fun v85 h86 =>
  strK v85 fun s87 =>
  Out.ok (.string s87) h86)) fun j81 =>
  ifK b7 (Out.ok (.string (⟨#[]⟩ : ByteArray)) h8) (ifK (n5 == 0) (bindO (sliceO Tryd.prog 9 (.string wblit4) (some (.int .i64 (IntKind.i64.wrap (n6 - 2)))) (some (.int .i64 (IntKind.i64.wrap (n6 - 1)))) h8) fun v127 h128 =>
  strK v127 fun s129 =>
  Out.ok (.string s129) h128) (ifK (n5 == 1) (bindO (sliceO Tryd.prog 9 (.string wblit5) (some (.int .i64 (IntKind.i64.wrap (n6 - 2)))) (some (.int .i64 (IntKind.i64.wrap (n6 - 1)))) h8) fun v133 h134 =>
  strK v133 fun s135 =>
  Out.ok (.string s135) h134) (ifK (n5 == 2) (bindO (sliceO Tryd.prog 9 (.string (⟨#[1, 2, 3, 4, 5, 6, 7, 8, 9, 10, 11, 12, 13, 27, 28, 29, 30, 31, 64, 92, 94, 95, 96, 124, 126, 127]⟩ : ByteArray)) (some (.int .i64 (IntKind.i64.wrap (n6 - 2)))) (some (.int .i64 (IntKind.i64.wrap (n6 - 1)))) h8) fun v139 h140 =>
  strK v139 fun s141 =>
  Out.ok (.string s141) h140) (ifK (n5 == 4) (bindO (sliceO Tryd.prog 9 (.string (⟨#[48, 49, 50, 51, 52, 53, 54, 55, 56, 57, 44, 46]⟩ : ByteArray)) (some (.int .i64 (IntKind.i64.wrap (n6 - 2)))) (some (.int .i64 (IntKind.i64.wrap (n6 - 1)))) h8) fun v145 h146 =>
  strK v145 fun s147 =>
  Out.ok (.string s147) h146) (ifK (decide (n6 < 6)) (pushJ h8 1 [.string (⟨#[13, 10]⟩ : ByteArray), .string (⟨#[46, 32]⟩ : ByteArray), .string (⟨#[44, 32]⟩ : ByteArray), .string (⟨#[58, 32]⟩ : ByteArray)] fun h154 =>
  bindO (idxO Tryd.prog 57 (.slice (some ⟨h8.next, 0, none⟩) 4 4) (.int .i64 (IntKind.i64.wrap (n6 - 2))) h154) fun v155 h156 =>
  bindO (loadO Tryd.prog 9 v155 h156) fun v157 h158 =>
  strK v157 fun s159 =>
  Out.ok (.string s159) h158) (j81))))))

noncomputable def F58.PJ6 (kb : Int → Int → Bool → Heap → Out) (e : Env) (h : Heap) : Out :=
  getK (e.get 0) fun w0 =>
  intK .i64 w0 fun n160 =>
  getK (e.get 1) fun w1 =>
  intK .i64 w1 fun n161 =>
  getK (e.get 15) fun w15 =>
  boolK w15 fun b162 =>
  kb n160 n161 b162 h

noncomputable def F58.J2 (call : CT) (lf ro : Nat) (n1 : Int) (n2 : Int) (b3 : Bool) (h4 : Heap) : Out :=
  ifK b3 (Out.ok (.string (⟨#[13]⟩ : ByteArray)) h4) (ifK (n2 == 1) (Out.ok (.string (⟨#[32]⟩ : ByteArray)) h4) (ifK (n2 == 0) (F58.J6 call lf ro n1 n2 true h4) (ifK (decide (n1 < 3)) (ifK (decide (n2 > 27)) (F58.J6 call lf ro n1 n2 true h4) (ifK (n1 == 3) (ifK (decide (n2 > 30)) (F58.J6 call lf ro n1 n2 true h4) (ifK (n1 == 4) (F58.J6 call lf ro n1 n2 (decide (n2 > 13)) h4) (F58.J6 call lf ro n1 n2 false h4))) (ifK (n1 == 4) (F58.J6 call lf ro n1 n2 (decide (n2 > 13)) h4) (F58.J6 call lf ro n1 n2 false h4)))) (ifK (n1 == 3) (ifK (decide (n2 > 30)) (F58.J6 call lf ro n1 n2 true h4) (ifK (n1 == 4) (F58.J6 call lf ro n1 n2 (decide (n2 > 13)) h4) (F58.J6 call lf ro n1 n2 false h4))) (ifK (n1 == 4) (F58.J6 call lf ro n1 n2 (decide (n2 > 13)) h4) (F58.J6 call lf ro n1 n2 false h4))))))

noncomputable def F58.PJ2 (kb : Int → Int → Bool → Heap → Out) (e : Env) (h : Heap) : Out :=
  getK (e.get 0) fun w0 =>
  intK .i64 w0 fun n163 =>
  getK (e.get 1) fun w1 =>
  intK .i64 w1 fun n164 =>
  getK (e.get 5) fun w5 =>
  boolK w5 fun b165 =>
  kb n163 n164 b165 h

noncomputable def F58.t (call : CT) (lf ro : Nat) (x0 : Int) (x1 : Int) (h : Heap) : Out :=
  ifK (x1 == 1) (F58.J2 call lf ro x0 x1 (x0 == 3) h) (F58.J2 call lf ro x0 x1 false h)

noncomputable def F58.Ht (call : CT) (lf ro : Nat) (i : Nat) (e : Env) (h : Heap) : Out := .fail
noncomputable def F58.Ut (call : CT) (lf ro : Nat) (i : Nat) : Option (Env → Heap → Out) := ifJ (i == 6) (some (F58.PJ6 (F58.J6 call lf ro))) (ifJ (i == 2) (some (F58.PJ2 (F58.J2 call lf ro))) (none))

noncomputable def F58.CJ6 (call : CT) (lf ro : Nat) : COut → Out := blockK 0 (seqH Tryd.prog call ro (F58.Ht call lf ro) (F58.Ut call lf ro) (sub (codeOf Tryd.f58) [true, true]) (endK Tryd.prog Tryd.f58))

noncomputable def F58.KJ6 (call : CT) (lf ro : Nat) : COut → Out := blockK 0 (seqK Tryd.prog call lf ro (sub (codeOf Tryd.f58) [true, true]) (endK Tryd.prog Tryd.f58))

noncomputable def F58.CJ2 (call : CT) (lf ro : Nat) : COut → Out := blockK 0 (seqH Tryd.prog call ro (F58.Ht call lf ro) (F58.Ut call lf ro) (sub (codeOf Tryd.f58) [true, true]) (endK Tryd.prog Tryd.f58))

noncomputable def F58.KJ2 (call : CT) (lf ro : Nat) : COut → Out := blockK 0 (seqK Tryd.prog call lf ro (sub (codeOf Tryd.f58) [true, true]) (endK Tryd.prog Tryd.f58))

theorem F58.RJ6 (call : CT) (lf ro : Nat) (f : Nat → Option Value) (n5 : Int) (n6 : Int) (b7 : Bool) (h8 : Heap) :
    execH Tryd.prog call ro (F58.Ht call lf ro) (F58.Ut call lf ro) (sub (codeOf Tryd.f58) [true, false, false, true, true, true, true, true]) (EF 87 (updF (updF (updF f 0 (some (.int .i64 n5))) 1 (some (.int .i64 n6))) 15 (some (.bool b7)))) h8 (F58.CJ6 call lf ro) = F58.J6 call lf ro n5 n6 b7 h8 := by kernel_rfl

theorem F58.CKJ6 (call : CT) (lf ro : Nat) : KLe 87 (F58.CJ6 call lf ro) (F58.KJ6 call lf ro) :=
  (KLe.block (KLe.seq (H := (F58.Ht call lf ro)) (J := (F58.Ut call lf ro)) (KLe.refl _) (hd_free rfl)))

theorem F58.BJ6 (call : CT) (lf ro : Nat) : ∀ e h, Shaped 87 e → LeO (F58.PJ6 (F58.J6 call lf ro) e h) (execK Tryd.prog call lf ro (sub (codeOf Tryd.f58) [true, false, false, true, true, true, true, true]) e h (F58.KJ6 call lf ro)) := by
    rintro e h ⟨f, rfl⟩
    unfold F58.PJ6
    refine getK_le fun w0 g0 => ?_
    rw [EF_get (by decide)] at g0
    refine intK_le fun n160 z166 => ?_
    subst z166
    refine getK_le fun w1 g1 => ?_
    rw [EF_get (by decide)] at g1
    refine intK_le fun n161 z167 => ?_
    subst z167
    refine getK_le fun w15 g15 => ?_
    rw [EF_get (by decide)] at g15
    refine boolK_le fun b162 z168 => ?_
    subst z168
    have hr := F58.RJ6 call lf ro f n160 n161 b162 h
    rw [updF_same g0, updF_same g1, updF_same g15] at hr
    exact cut_le (H := (F58.Ht call lf ro)) (J := (F58.Ut call lf ro)) (F58.CKJ6 call lf ro) (hd_free rfl) hr

theorem F58.RJ2 (call : CT) (lf ro : Nat) (f : Nat → Option Value) (n1 : Int) (n2 : Int) (b3 : Bool) (h4 : Heap) :
    execH Tryd.prog call ro (F58.Ht call lf ro) (F58.Ut call lf ro) (sub (codeOf Tryd.f58) [true, false, false, true]) (EF 87 (updF (updF (updF f 0 (some (.int .i64 n1))) 1 (some (.int .i64 n2))) 5 (some (.bool b3)))) h4 (F58.CJ2 call lf ro) = F58.J2 call lf ro n1 n2 b3 h4 := by kernel_rfl

theorem F58.CKJ2 (call : CT) (lf ro : Nat) : KLe 87 (F58.CJ2 call lf ro) (F58.KJ2 call lf ro) :=
  (KLe.block (KLe.seq (H := (F58.Ht call lf ro)) (J := (F58.Ut call lf ro)) (KLe.refl _) (hd_free rfl)))

theorem F58.BJ2 (call : CT) (lf ro : Nat) : ∀ e h, Shaped 87 e → LeO (F58.PJ2 (F58.J2 call lf ro) e h) (execK Tryd.prog call lf ro (sub (codeOf Tryd.f58) [true, false, false, true]) e h (F58.KJ2 call lf ro)) := by
    rintro e h ⟨f, rfl⟩
    unfold F58.PJ2
    refine getK_le fun w0 g0 => ?_
    rw [EF_get (by decide)] at g0
    refine intK_le fun n163 z172 => ?_
    subst z172
    refine getK_le fun w1 g1 => ?_
    rw [EF_get (by decide)] at g1
    refine intK_le fun n164 z173 => ?_
    subst z173
    refine getK_le fun w5 g5 => ?_
    rw [EF_get (by decide)] at g5
    refine boolK_le fun b165 z174 => ?_
    subst z174
    have hr := F58.RJ2 call lf ro f n163 n164 b165 h
    rw [updF_same g0, updF_same g1, updF_same g5] at hr
    exact cut_le (H := (F58.Ht call lf ro)) (J := (F58.Ut call lf ro)) (F58.CKJ2 call lf ro) ⟨(hd_free rfl), ⟨(hd_free rfl), ⟨(hd_free rfl), ⟨(hd_free rfl), (fun e h hs => F58.BJ6 call lf ro  e h hs)⟩⟩⟩⟩ hr

theorem F58.le (call : CT) (lf ro : Nat) (x0 : Int) (x1 : Int) (h : Heap) : LeO (F58.t call lf ro x0 x1 h) (bodyK Tryd.prog call lf ro Tryd.f58 [.int .i64 x0, .int .i64 x1] h) :=
  body_le (c := codeOf Tryd.f58) (H := F58.Ht call lf ro) (J := F58.Ut call lf ro) rfl (Nat.le_of_ble_eq_true rfl) ⟨(hd_free rfl), ⟨⟨(hd_free rfl), (fun e h hs => F58.BJ2 call lf ro  e h hs)⟩, (hd_free rfl)⟩⟩ (by kernel_rfl)

/-! ### barscan/aztext.text: function 64 -/

noncomputable def F64.t (call : CT) (lf ro : Nat) (x0 : Int) (x1 : Int) (h : Heap) : Out :=
  bindO (call ro 48 [.int .i64 x0] h) fun v4 h5 =>
  sliceK v4 fun a6 l6 c6 =>
  ifK (decide (x1 < (l6 : Int))) (bindO (idxO Tryd.prog 57 (.slice a6 l6 c6) (.int .i64 x1) h5) fun v22 h23 =>
  bindO (loadO Tryd.prog 9 v22 h23) fun v24 h25 =>
  strK v24 fun s26 =>
  Out.ok (.string s26) h25) (Out.ok (.string (⟨#[]⟩ : ByteArray)) h5)

noncomputable def F64.Ht (call : CT) (lf ro : Nat) (i : Nat) (e : Env) (h : Heap) : Out := .fail
noncomputable def F64.Ut (call : CT) (lf ro : Nat) (i : Nat) : Option (Env → Heap → Out) := none

theorem F64.le (call : CT) (lf ro : Nat) (x0 : Int) (x1 : Int) (h : Heap) : LeO (F64.t call lf ro x0 x1 h) (bodyK Tryd.prog call lf ro Tryd.f64 [.int .i64 x0, .int .i64 x1] h) :=
  body_le (c := codeOf Tryd.f64) (H := F64.Ht call lf ro) (J := F64.Ut call lf ro) rfl (Nat.le_of_ble_eq_true rfl) (hd_free rfl) (by kernel_rfl)

/-! ### barscan/aztext.table$1: function 70 -/

noncomputable def F70.t (call : CT) (lf ro : Nat) (x0 : ByteArray) (h : Heap) : Out :=
  bindO (call ro 71 [.string x0, .string (⟨#[]⟩ : ByteArray)] h) fun v4 h5 =>
  sliceK v4 fun a6 l6 c6 =>
  Out.ok (.slice a6 l6 c6) h5

noncomputable def F70.Ht (call : CT) (lf ro : Nat) (i : Nat) (e : Env) (h : Heap) : Out := .fail
noncomputable def F70.Ut (call : CT) (lf ro : Nat) (i : Nat) : Option (Env → Heap → Out) := none

theorem F70.le (call : CT) (lf ro : Nat) (x0 : ByteArray) (h : Heap) : LeO (F70.t call lf ro x0 h) (bodyK Tryd.prog call lf ro Tryd.f70 [.string x0] h) :=
  body_le (c := codeOf Tryd.f70) (H := F70.Ht call lf ro) (J := F70.Ut call lf ro) rfl (Nat.le_of_ble_eq_true rfl) (hd_free rfl) (by kernel_rfl)

/-! ### strings.Split: function 71 -/

noncomputable def F71.t (call : CT) (lf ro : Nat) (x0 : ByteArray) (x1 : ByteArray) (h : Heap) : Out :=
  bindO (call ro 75 [.string x0, .string x1, .int .i64 0, .int .i64 (-1)] h) fun v4 h5 =>
  sliceK v4 fun a6 l6 c6 =>
  Out.ok (.slice a6 l6 c6) h5

noncomputable def F71.Ht (call : CT) (lf ro : Nat) (i : Nat) (e : Env) (h : Heap) : Out := .fail
noncomputable def F71.Ut (call : CT) (lf ro : Nat) (i : Nat) : Option (Env → Heap → Out) := none

theorem F71.le (call : CT) (lf ro : Nat) (x0 : ByteArray) (x1 : ByteArray) (h : Heap) : LeO (F71.t call lf ro x0 x1 h) (bodyK Tryd.prog call lf ro Tryd.f71 [.string x0, .string x1] h) :=
  body_le (c := codeOf Tryd.f71) (H := F71.Ht call lf ro) (J := F71.Ut call lf ro) rfl (Nat.le_of_ble_eq_true rfl) (hd_free rfl) (by kernel_rfl)

/-! ### barscan/aztext.runCost: function 72 -/

noncomputable def F72.t (call : CT) (lf ro : Nat) (x0 : Int) (h : Heap) : Out :=
  ifK (decide (x0 ≤ 31)) (Out.ok (.int .i64 (IntKind.i64.wrap (10 + (IntKind.i64.wrap (8 * x0))))) h) (Out.ok (.int .i64 (IntKind.i64.wrap (21 + (IntKind.i64.wrap (8 * x0))))) h)

noncomputable def F72.Ht (call : CT) (lf ro : Nat) (i : Nat) (e : Env) (h : Heap) : Out := .fail
noncomputable def F72.Ut (call : CT) (lf ro : Nat) (i : Nat) : Option (Env → Heap → Out) := none

theorem F72.le (call : CT) (lf ro : Nat) (x0 : Int) (h : Heap) : LeO (F72.t call lf ro x0 h) (bodyK Tryd.prog call lf ro Tryd.f72 [.int .i64 x0] h) :=
  body_le (c := codeOf Tryd.f72) (H := F72.Ht call lf ro) (J := F72.Ut call lf ro) rfl (Nat.le_of_ble_eq_true rfl) (hd_free rfl) (by kernel_rfl)

/-! ### strings.HasPrefix: function 73 -/

noncomputable def F73.t (call : CT) (lf ro : Nat) (x0 : ByteArray) (x1 : ByteArray) (h : Heap) : Out :=
  bindO (call ro 76 [.string x0, .string x1] h) fun v4 h5 =>
  boolK v4 fun b6 =>
  Out.ok (.bool b6) h5

noncomputable def F73.Ht (call : CT) (lf ro : Nat) (i : Nat) (e : Env) (h : Heap) : Out := .fail
noncomputable def F73.Ut (call : CT) (lf ro : Nat) (i : Nat) : Option (Env → Heap → Out) := none

theorem F73.le (call : CT) (lf ro : Nat) (x0 : ByteArray) (x1 : ByteArray) (h : Heap) : LeO (F73.t call lf ro x0 x1 h) (bodyK Tryd.prog call lf ro Tryd.f73 [.string x0, .string x1] h) :=
  body_le (c := codeOf Tryd.f73) (H := F73.Ht call lf ro) (J := F73.Ut call lf ro) rfl (Nat.le_of_ble_eq_true rfl) (hd_free rfl) (by kernel_rfl)

/-! ### strings.genSplit: function 75 -/

noncomputable def F75.J12 (call : CT) (lf ro : Nat) (kb11 : ByteArray → ByteArray → Int → Int → (Option Addr) → Nat → Nat → Int → Heap → Out) (s38 : ByteArray) (s39 : ByteArray) (n40 : Int) (n41 : Int) (a42 : Option Addr) (l42 : Nat) (c42 : Nat) (n43 : Int) (h44 : Heap) : Out :=
  letJ (fun (h71 : Heap) =>
  (bindO (idxO Tryd.prog 57 (.slice a42 l42 c42) (.int .i64 n43) h71) fun v77 h78 =>
  bindO (storeO Tryd.prog ro 9 v77 (.string s38) h78) fun v79 h80 =>
  bindO (sliceO Tryd.prog 57 (.slice a42 l42 c42) none (some (.int .i64 (IntKind.i64.wrap (n43 + 1)))) h80) fun v84 h85 =>
  sliceK v84 fun a86 l86 c86 =>
  Out.ok (.slice a86 l86 c86) h85)) fun j72 =>
  bindO (call ro 79 [.string s38, .string s39] h44) fun v90 h91 =>
  intK .i64 v90 fun n92 =>
  ifK (decide (n92 < 0)) (j72 h91) (bindO (sliceO Tryd.prog 9 (.string s38) none (some (.int .i64 (IntKind.i64.wrap (n92 + n40)))) h91) fun v100 h101 =>
  strK v100 fun s102 =>
  bindO (idxO Tryd.prog 57 (.slice a42 l42 c42) (.int .i64 n43) h101) fun v103 h104 =>
  bindO (storeO Tryd.prog ro 9 v103 (.string s102) h104) fun v105 h106 =>
  bindO (sliceO Tryd.prog 9 (.string s38) (some (.int .i64 (IntKind.i64.wrap (n92 + (s39.size : Int))))) none h106) fun v110 h111 =>
  strK v110 fun s112 =>
  kb11 s112 s39 n40 n41 a42 l42 c42 (IntKind.i64.wrap (n43 + 1)) h111)

noncomputable def F75.PJ12 (kb : ByteArray → ByteArray → Int → Int → (Option Addr) → Nat → Nat → Int → Heap → Out) (e : Env) (h : Heap) : Out :=
  getK (e.get 0) fun w0 =>
  strK w0 fun s113 =>
  getK (e.get 1) fun w1 =>
  strK w1 fun s114 =>
  getK (e.get 2) fun w2 =>
  intK .i64 w2 fun n115 =>
  getK (e.get 3) fun w3 =>
  intK .i64 w3 fun n116 =>
  getK (e.get 9) fun w9 =>
  sliceK w9 fun a117 l117 c117 =>
  getK (e.get 10) fun w10 =>
  intK .i64 w10 fun n118 =>
  kb s113 s114 n115 n116 a117 l117 c117 n118 h

noncomputable def F75.L11 (call : CT) (lf ro : Nat) : Nat → ByteArray → ByteArray → Int → Int → (Option Addr) → Nat → Nat → Int → Heap → Out
  | 0, _, _, _, _, _, _, _, _, _ => .fail
  | n + 1, s31, s32, n33, n34, a35, l35, c35, n36, h37 =>
  ifK (decide (n36 < n34)) (F75.J12 call lf ro (F75.L11 call lf ro n) s31 s32 n33 n34 a35 l35 c35 n36 h37) (bindO (idxO Tryd.prog 57 (.slice a35 l35 c35) (.int .i64 n36) h37) fun v123 h124 =>
  bindO (storeO Tryd.prog ro 9 v123 (.string s31) h124) fun v125 h126 =>
  bindO (sliceO Tryd.prog 57 (.slice a35 l35 c35) none (some (.int .i64 (IntKind.i64.wrap (n36 + 1)))) h126) fun v130 h131 =>
  sliceK v130 fun a132 l132 c132 =>
  Out.ok (.slice a132 l132 c132) h131)

noncomputable def F75.P11 (kb : ByteArray → ByteArray → Int → Int → (Option Addr) → Nat → Nat → Int → Heap → Out) (e : Env) (h : Heap) : Out :=
  getK (e.get 0) fun w0 =>
  strK w0 fun s133 =>
  getK (e.get 1) fun w1 =>
  strK w1 fun s134 =>
  getK (e.get 2) fun w2 =>
  intK .i64 w2 fun n135 =>
  getK (e.get 3) fun w3 =>
  intK .i64 w3 fun n136 =>
  getK (e.get 9) fun w9 =>
  sliceK w9 fun a137 l137 c137 =>
  getK (e.get 10) fun w10 =>
  intK .i64 w10 fun n138 =>
  kb s133 s134 n135 n136 a137 l137 c137 n138 h

noncomputable def F75.J7 (call : CT) (lf ro : Nat) (s20 : ByteArray) (s21 : ByteArray) (n22 : Int) (n23 : Int) (h24 : Heap) : Out :=
  bindO (msliceO Tryd.prog 57 (.int .i64 (if IntKind.i64.wrap ((s20.size : Int) + 1) < n23 then IntKind.i64.wrap ((s20.size : Int) + 1) else n23)) (.int .i64 (if IntKind.i64.wrap ((s20.size : Int) + 1) < n23 then IntKind.i64.wrap ((s20.size : Int) + 1) else n23)) h24) fun v28 h29 =>
  sliceK v28 fun a30 l30 c30 =>
  F75.L11 call lf ro lf s20 s21 n22 (IntKind.i64.wrap ((if IntKind.i64.wrap ((s20.size : Int) + 1) < n23 then IntKind.i64.wrap ((s20.size : Int) + 1) else n23) - 1)) a30 l30 c30 0 h29

noncomputable def F75.PJ7 (kb : ByteArray → ByteArray → Int → Int → Heap → Out) (e : Env) (h : Heap) : Out :=
  getK (e.get 0) fun w0 =>
  strK w0 fun s139 =>
  getK (e.get 1) fun w1 =>
  strK w1 fun s140 =>
  getK (e.get 2) fun w2 =>
  intK .i64 w2 fun n141 =>
  getK (e.get 3) fun w3 =>
  intK .i64 w3 fun n142 =>
  kb s139 s140 n141 n142 h

noncomputable def F75.J5 (call : CT) (lf ro : Nat) (s12 : ByteArray) (s13 : ByteArray) (n14 : Int) (n15 : Int) (h16 : Heap) : Out :=
  ifK (decide (n15 < 0)) (bindO (call ro 78 [.string s12, .string s13] h16) fun v17 h18 =>
  intK .i64 v17 fun n19 =>
  F75.J7 call lf ro s12 s13 n14 (IntKind.i64.wrap (n19 + 1)) h18) (F75.J7 call lf ro s12 s13 n14 n15 h16)

noncomputable def F75.PJ5 (kb : ByteArray → ByteArray → Int → Int → Heap → Out) (e : Env) (h : Heap) : Out :=
  getK (e.get 0) fun w0 =>
  strK w0 fun s143 =>
  getK (e.get 1) fun w1 =>
  strK w1 fun s144 =>
  getK (e.get 2) fun w2 =>
  intK .i64 w2 fun n145 =>
  getK (e.get 3) fun w3 =>
  intK .i64 w3 fun n146 =>
  kb s143 s144 n145 n146 h

noncomputable def F75.J3 (call : CT) (lf ro : Nat) (s1 : ByteArray) (s2 : ByteArray) (n3 : Int) (n4 : Int) (h5 : Heap) : Out :=
  ifK (s2.toList == (⟨#[]⟩ : ByteArray).toList) (bindO (call ro 77 [.string s1, .int .i64 n4] h5) fun v9 h10 =>
  sliceK v9 fun a11 l11 c11 =>
  Out.ok (.slice a11 l11 c11) h10) (F75.J5 call lf ro s1 s2 n3 n4 h5)

noncomputable def F75.PJ3 (kb : ByteArray → ByteArray → Int → Int → Heap → Out) (e : Env) (h : Heap) : Out :=
  getK (e.get 0) fun w0 =>
  strK w0 fun s147 =>
  getK (e.get 1) fun w1 =>
  strK w1 fun s148 =>
  getK (e.get 2) fun w2 =>
  intK .i64 w2 fun n149 =>
  getK (e.get 3) fun w3 =>
  intK .i64 w3 fun n150 =>
  kb s147 s148 n149 n150 h

noncomputable def F75.t (call : CT) (lf ro : Nat) (x0 : ByteArray) (x1 : ByteArray) (x2 : Int) (x3 : Int) (h : Heap) : Out :=
  ifK (x3 == 0) (Out.ok (.slice none 0 0) h) (F75.J3 call lf ro x0 x1 x2 x3 h)

noncomputable def F75.Ht (call : CT) (lf ro : Nat) (i : Nat) (e : Env) (h : Heap) : Out := ifK (i == 11) (F75.P11 (F75.L11 call lf ro lf) e h) (.fail)
noncomputable def F75.Ut (call : CT) (lf ro : Nat) (i : Nat) : Option (Env → Heap → Out) := ifJ (i == 7) (some (F75.PJ7 (F75.J7 call lf ro))) (ifJ (i == 5) (some (F75.PJ5 (F75.J5 call lf ro))) (ifJ (i == 3) (some (F75.PJ3 (F75.J3 call lf ro))) (none)))

noncomputable def F75.H11 (call : CT) (lf ro : Nat) (kb11 : ByteArray → ByteArray → Int → Int → (Option Addr) → Nat → Nat → Int → Heap → Out) (i : Nat) (e : Env) (h : Heap) : Out := ifK (i == 11) (F75.P11 (F75.L11 call lf ro lf) e h) (.fail)
noncomputable def F75.U11 (call : CT) (lf ro : Nat) (kb11 : ByteArray → ByteArray → Int → Int → (Option Addr) → Nat → Nat → Int → Heap → Out) (i : Nat) : Option (Env → Heap → Out) := ifJ (i == 12) (some (F75.PJ12 (F75.J12 call lf ro kb11))) (ifJ (i == 7) (some (F75.PJ7 (F75.J7 call lf ro))) (ifJ (i == 5) (some (F75.PJ5 (F75.J5 call lf ro))) (ifJ (i == 3) (some (F75.PJ3 (F75.J3 call lf ro))) (none))))

noncomputable def F75.C11 (call : CT) (lf ro : Nat) : COut → Out := blockK 0 (seqH Tryd.prog call ro (F75.Ht call lf ro) (F75.Ut call lf ro) (sub (codeOf Tryd.f75) [true, true, true, true, true, true, true, true, true]) (endK Tryd.prog Tryd.f75))

noncomputable def F75.K11 (call : CT) (lf ro : Nat) : COut → Out := blockK 0 (seqK Tryd.prog call lf ro (sub (codeOf Tryd.f75) [true, true, true, true, true, true, true, true, true]) (endK Tryd.prog Tryd.f75))

noncomputable def F75.CJ7 (call : CT) (lf ro : Nat) : COut → Out := endK Tryd.prog Tryd.f75

noncomputable def F75.KJ7 (call : CT) (lf ro : Nat) : COut → Out := endK Tryd.prog Tryd.f75

noncomputable def F75.CJ5 (call : CT) (lf ro : Nat) : COut → Out := endK Tryd.prog Tryd.f75

noncomputable def F75.KJ5 (call : CT) (lf ro : Nat) : COut → Out := endK Tryd.prog Tryd.f75

noncomputable def F75.CJ3 (call : CT) (lf ro : Nat) : COut → Out := endK Tryd.prog Tryd.f75

noncomputable def F75.KJ3 (call : CT) (lf ro : Nat) : COut → Out := endK Tryd.prog Tryd.f75

noncomputable def F75.CJ12 (call : CT) (lf ro : Nat) (kb11 : ByteArray → ByteArray → Int → Int → (Option Addr) → Nat → Nat → Int → Heap → Out) : COut → Out := outK (F75.P11 kb11) (fun i e h => F75.C11 call lf ro (.exit i e h)) (fun e h => F75.C11 call lf ro (.ret e h))

noncomputable def F75.KJ12 (call : CT) (lf ro : Nat) (kb11 : ByteArray → ByteArray → Int → Int → (Option Addr) → Nat → Nat → Int → Heap → Out) : COut → Out := outK (F75.P11 kb11) (fun i e h => F75.C11 call lf ro (.exit i e h)) (fun e h => F75.C11 call lf ro (.ret e h))

theorem F75.RJ12 (call : CT) (lf ro : Nat) (kb11 : ByteArray → ByteArray → Int → Int → (Option Addr) → Nat → Nat → Int → Heap → Out) (f : Nat → Option Value) (s38 : ByteArray) (s39 : ByteArray) (n40 : Int) (n41 : Int) (a42 : Option Addr) (l42 : Nat) (c42 : Nat) (n43 : Int) (h44 : Heap) :
    execH Tryd.prog call ro (F75.H11 call lf ro kb11) (F75.U11 call lf ro kb11) (sub (codeOf Tryd.f75) [true, true, true, true, true, true, true, true, false, false, false, true]) (EF 66 (updF (updF (updF (updF (updF (updF f 0 (some (.string s38))) 1 (some (.string s39))) 2 (some (.int .i64 n40))) 3 (some (.int .i64 n41))) 9 (some (.slice a42 l42 c42))) 10 (some (.int .i64 n43)))) h44 (F75.CJ12 call lf ro kb11) = F75.J12 call lf ro kb11 s38 s39 n40 n41 a42 l42 c42 n43 h44 := by kernel_rfl

theorem F75.CKJ12 (call : CT) (lf ro : Nat) (kb11 : ByteArray → ByteArray → Int → Int → (Option Addr) → Nat → Nat → Int → Heap → Out) : KLe 66 (F75.CJ12 call lf ro kb11) (F75.KJ12 call lf ro kb11) :=
  (KLe.refl _)

theorem F75.BJ12 (call : CT) (lf ro : Nat) (kb11 : ByteArray → ByteArray → Int → Int → (Option Addr) → Nat → Nat → Int → Heap → Out) : ∀ e h, Shaped 66 e → LeO (F75.PJ12 (F75.J12 call lf ro kb11) e h) (execK Tryd.prog call lf ro (sub (codeOf Tryd.f75) [true, true, true, true, true, true, true, true, false, false, false, true]) e h (F75.KJ12 call lf ro kb11)) := by
    rintro e h ⟨f, rfl⟩
    unfold F75.PJ12
    refine getK_le fun w0 g0 => ?_
    rw [EF_get (by decide)] at g0
    refine strK_le fun s113 z151 => ?_
    subst z151
    refine getK_le fun w1 g1 => ?_
    rw [EF_get (by decide)] at g1
    refine strK_le fun s114 z152 => ?_
    subst z152
    refine getK_le fun w2 g2 => ?_
    rw [EF_get (by decide)] at g2
    refine intK_le fun n115 z153 => ?_
    subst z153
    refine getK_le fun w3 g3 => ?_
    rw [EF_get (by decide)] at g3
    refine intK_le fun n116 z154 => ?_
    subst z154
    refine getK_le fun w9 g9 => ?_
    rw [EF_get (by decide)] at g9
    refine sliceK_le fun a117 l117 c117 z155 => ?_
    subst z155
    refine getK_le fun w10 g10 => ?_
    rw [EF_get (by decide)] at g10
    refine intK_le fun n118 z156 => ?_
    subst z156
    have hr := F75.RJ12 call lf ro kb11 f s113 s114 n115 n116 a117 l117 c117 n118 h
    rw [updF_same g0, updF_same g1, updF_same g2, updF_same g3, updF_same g9, updF_same g10] at hr
    exact cut_le (H := (F75.H11 call lf ro kb11)) (J := (F75.U11 call lf ro kb11)) (F75.CKJ12 call lf ro kb11) (hd_free rfl) hr

theorem F75.R11 (call : CT) (lf ro : Nat) (n : Nat) (f : Nat → Option Value) (s31 : ByteArray) (s32 : ByteArray) (n33 : Int) (n34 : Int) (a35 : Option Addr) (l35 : Nat) (c35 : Nat) (n36 : Int) (h37 : Heap) :
    execH Tryd.prog call ro (F75.H11 call lf ro (F75.L11 call lf ro n)) (F75.U11 call lf ro (F75.L11 call lf ro n)) (sub (codeOf Tryd.f75) [true, true, true, true, true, true, true, true, false, false, false]) (EF 66 (updF (updF (updF (updF (updF (updF f 0 (some (.string s31))) 1 (some (.string s32))) 2 (some (.int .i64 n33))) 3 (some (.int .i64 n34))) 9 (some (.slice a35 l35 c35))) 10 (some (.int .i64 n36)))) h37 (outK (F75.P11 (F75.L11 call lf ro n)) (fun i e h => F75.C11 call lf ro (.exit i e h)) (fun e h => F75.C11 call lf ro (.ret e h))) = F75.L11 call lf ro (n + 1) s31 s32 n33 n34 a35 l35 c35 n36 h37 := by kernel_rfl

theorem F75.CK11 (call : CT) (lf ro : Nat) : KLe 66 (F75.C11 call lf ro) (F75.K11 call lf ro) :=
  (KLe.block (KLe.seq (H := (F75.Ht call lf ro)) (J := (F75.Ut call lf ro)) (KLe.refl _) (hd_free rfl)))

theorem F75.B11 (call : CT) (lf ro : Nat) : ∀ n e h, Shaped 66 e → LeO (F75.P11 (F75.L11 call lf ro n) e h) (loopK (execK Tryd.prog call lf ro (sub (codeOf Tryd.f75) [true, true, true, true, true, true, true, true, false, false, false])) n e h (F75.K11 call lf ro)) := by
  refine loop_le (fun e h k k' hs hk => execK_mono _ e h k k' hs hk) (kb := fun n => F75.P11 (F75.L11 call lf ro n)) (kx := fun i e h => F75.C11 call lf ro (.exit i e h)) (kr := fun e h => F75.C11 call lf ro (.ret e h)) ?_ ?_ (fun i e h hs => (F75.CK11 call lf ro).exit i e h hs) (fun e h hs => (F75.CK11 call lf ro).ret e h hs)
  · rintro e h ⟨f, rfl⟩
    unfold F75.P11
    refine getK_le fun w0 g0 => ?_
    rw [EF_get (by decide)] at g0
    refine strK_le fun s133 z163 => ?_
    subst z163
    refine getK_le fun w1 g1 => ?_
    rw [EF_get (by decide)] at g1
    refine strK_le fun s134 z164 => ?_
    subst z164
    refine getK_le fun w2 g2 => ?_
    rw [EF_get (by decide)] at g2
    refine intK_le fun n135 z165 => ?_
    subst z165
    refine getK_le fun w3 g3 => ?_
    rw [EF_get (by decide)] at g3
    refine intK_le fun n136 z166 => ?_
    subst z166
    refine getK_le fun w9 g9 => ?_
    rw [EF_get (by decide)] at g9
    refine sliceK_le fun a137 l137 c137 z167 => ?_
    subst z167
    refine getK_le fun w10 g10 => ?_
    rw [EF_get (by decide)] at g10
    refine intK_le fun n138 z168 => ?_
    subst z168
    exact LeO.refl _
  · rintro n e h ⟨f, rfl⟩
    unfold F75.P11
    refine getK_le fun w0 g0 => ?_
    rw [EF_get (by decide)] at g0
    refine strK_le fun s133 z169 => ?_
    subst z169
    refine getK_le fun w1 g1 => ?_
    rw [EF_get (by decide)] at g1
    refine strK_le fun s134 z170 => ?_
    subst z170
    refine getK_le fun w2 g2 => ?_
    rw [EF_get (by decide)] at g2
    refine intK_le fun n135 z171 => ?_
    subst z171
    refine getK_le fun w3 g3 => ?_
    rw [EF_get (by decide)] at g3
    refine intK_le fun n136 z172 => ?_
    subst z172
    refine getK_le fun w9 g9 => ?_
    rw [EF_get (by decide)] at g9
    refine sliceK_le fun a137 l137 c137 z173 => ?_
    subst z173
    refine getK_le fun w10 g10 => ?_
    rw [EF_get (by decide)] at g10
    refine intK_le fun n138 z174 => ?_
    subst z174
    have hr := F75.R11 call lf ro n f s133 s134 n135 n136 a137 l137 c137 n138 h
    rw [updF_same g0, updF_same g1, updF_same g2, updF_same g3, updF_same g9, updF_same g10] at hr
    exact round_le (H := (F75.H11 call lf ro (F75.L11 call lf ro n))) (J := (F75.U11 call lf ro (F75.L11 call lf ro n))) ⟨(hd_free rfl), (fun e h hs => F75.BJ12 call lf ro (F75.L11 call lf ro n) e h hs)⟩ hr

theorem F75.RJ7 (call : CT) (lf ro : Nat) (f : Nat → Option Value) (s20 : ByteArray) (s21 : ByteArray) (n22 : Int) (n23 : Int) (h24 : Heap) :
    execH Tryd.prog call ro (F75.Ht call lf ro) (F75.Ut call lf ro) (sub (codeOf Tryd.f75) [true, true, true, true]) (EF 66 (updF (updF (updF (updF f 0 (some (.string s20))) 1 (some (.string s21))) 2 (some (.int .i64 n22))) 3 (some (.int .i64 n23)))) h24 (F75.CJ7 call lf ro) = F75.J7 call lf ro s20 s21 n22 n23 h24 := by kernel_rfl

theorem F75.CKJ7 (call : CT) (lf ro : Nat) : KLe 66 (F75.CJ7 call lf ro) (F75.KJ7 call lf ro) :=
  (KLe.refl _)

theorem F75.BJ7 (call : CT) (lf ro : Nat) : ∀ e h, Shaped 66 e → LeO (F75.PJ7 (F75.J7 call lf ro) e h) (execK Tryd.prog call lf ro (sub (codeOf Tryd.f75) [true, true, true, true]) e h (F75.KJ7 call lf ro)) := by
    rintro e h ⟨f, rfl⟩
    unfold F75.PJ7
    refine getK_le fun w0 g0 => ?_
    rw [EF_get (by decide)] at g0
    refine strK_le fun s139 z175 => ?_
    subst z175
    refine getK_le fun w1 g1 => ?_
    rw [EF_get (by decide)] at g1
    refine strK_le fun s140 z176 => ?_
    subst z176
    refine getK_le fun w2 g2 => ?_
    rw [EF_get (by decide)] at g2
    refine intK_le fun n141 z177 => ?_
    subst z177
    refine getK_le fun w3 g3 => ?_
    rw [EF_get (by decide)] at g3
    refine intK_le fun n142 z178 => ?_
    subst z178
    have hr := F75.RJ7 call lf ro f s139 s140 n141 n142 h
    rw [updF_same g0, updF_same g1, updF_same g2, updF_same g3] at hr
    exact cut_le (H := (F75.Ht call lf ro)) (J := (F75.Ut call lf ro)) (F75.CKJ7 call lf ro) ⟨(hd_free rfl), ⟨(hd_free rfl), ⟨(hd_free rfl), ⟨(hd_free rfl), ⟨(fun e h hs => F75.B11 call lf ro  lf e h hs), (hd_free rfl)⟩⟩⟩⟩⟩ hr

theorem F75.RJ5 (call : CT) (lf ro : Nat) (f : Nat → Option Value) (s12 : ByteArray) (s13 : ByteArray) (n14 : Int) (n15 : Int) (h16 : Heap) :
    execH Tryd.prog call ro (F75.Ht call lf ro) (F75.Ut call lf ro) (sub (codeOf Tryd.f75) [true, true, true]) (EF 66 (updF (updF (updF (updF f 0 (some (.string s12))) 1 (some (.string s13))) 2 (some (.int .i64 n14))) 3 (some (.int .i64 n15)))) h16 (F75.CJ5 call lf ro) = F75.J5 call lf ro s12 s13 n14 n15 h16 := by kernel_rfl

theorem F75.CKJ5 (call : CT) (lf ro : Nat) : KLe 66 (F75.CJ5 call lf ro) (F75.KJ5 call lf ro) :=
  (KLe.refl _)

theorem F75.BJ5 (call : CT) (lf ro : Nat) : ∀ e h, Shaped 66 e → LeO (F75.PJ5 (F75.J5 call lf ro) e h) (execK Tryd.prog call lf ro (sub (codeOf Tryd.f75) [true, true, true]) e h (F75.KJ5 call lf ro)) := by
    rintro e h ⟨f, rfl⟩
    unfold F75.PJ5
    refine getK_le fun w0 g0 => ?_
    rw [EF_get (by decide)] at g0
    refine strK_le fun s143 z183 => ?_
    subst z183
    refine getK_le fun w1 g1 => ?_
    rw [EF_get (by decide)] at g1
    refine strK_le fun s144 z184 => ?_
    subst z184
    refine getK_le fun w2 g2 => ?_
    rw [EF_get (by decide)] at g2
    refine intK_le fun n145 z185 => ?_
    subst z185
    refine getK_le fun w3 g3 => ?_
    rw [EF_get (by decide)] at g3
    refine intK_le fun n146 z186 => ?_
    subst z186
    have hr := F75.RJ5 call lf ro f s143 s144 n145 n146 h
    rw [updF_same g0, updF_same g1, updF_same g2, updF_same g3] at hr
    exact cut_le (H := (F75.Ht call lf ro)) (J := (F75.Ut call lf ro)) (F75.CKJ5 call lf ro) ⟨(hd_free rfl), (fun e h hs => F75.BJ7 call lf ro  e h hs)⟩ hr

theorem F75.RJ3 (call : CT) (lf ro : Nat) (f : Nat → Option Value) (s1 : ByteArray) (s2 : ByteArray) (n3 : Int) (n4 : Int) (h5 : Heap) :
    execH Tryd.prog call ro (F75.Ht call lf ro) (F75.Ut call lf ro) (sub (codeOf Tryd.f75) [true, true]) (EF 66 (updF (updF (updF (updF f 0 (some (.string s1))) 1 (some (.string s2))) 2 (some (.int .i64 n3))) 3 (some (.int .i64 n4)))) h5 (F75.CJ3 call lf ro) = F75.J3 call lf ro s1 s2 n3 n4 h5 := by kernel_rfl

theorem F75.CKJ3 (call : CT) (lf ro : Nat) : KLe 66 (F75.CJ3 call lf ro) (F75.KJ3 call lf ro) :=
  (KLe.refl _)

theorem F75.BJ3 (call : CT) (lf ro : Nat) : ∀ e h, Shaped 66 e → LeO (F75.PJ3 (F75.J3 call lf ro) e h) (execK Tryd.prog call lf ro (sub (codeOf Tryd.f75) [true, true]) e h (F75.KJ3 call lf ro)) := by
    rintro e h ⟨f, rfl⟩
    unfold F75.PJ3
    refine getK_le fun w0 g0 => ?_
    rw [EF_get (by decide)] at g0
    refine strK_le fun s147 z191 => ?_
    subst z191
    refine getK_le fun w1 g1 => ?_
    rw [EF_get (by decide)] at g1
    refine strK_le fun s148 z192 => ?_
    subst z192
    refine getK_le fun w2 g2 => ?_
    rw [EF_get (by decide)] at g2
    refine intK_le fun n149 z193 => ?_
    subst z193
    refine getK_le fun w3 g3 => ?_
    rw [EF_get (by decide)] at g3
    refine intK_le fun n150 z194 => ?_
    subst z194
    have hr := F75.RJ3 call lf ro f s147 s148 n149 n150 h
    rw [updF_same g0, updF_same g1, updF_same g2, updF_same g3] at hr
    exact cut_le (H := (F75.Ht call lf ro)) (J := (F75.Ut call lf ro)) (F75.CKJ3 call lf ro) ⟨(hd_free rfl), (fun e h hs => F75.BJ5 call lf ro  e h hs)⟩ hr

theorem F75.le (call : CT) (lf ro : Nat) (x0 : ByteArray) (x1 : ByteArray) (x2 : Int) (x3 : Int) (h : Heap) : LeO (F75.t call lf ro x0 x1 x2 x3 h) (bodyK Tryd.prog call lf ro Tryd.f75 [.string x0, .string x1, .int .i64 x2, .int .i64 x3] h) :=
  body_le (c := codeOf Tryd.f75) (H := F75.Ht call lf ro) (J := F75.Ut call lf ro) rfl (Nat.le_of_ble_eq_true rfl) ⟨(hd_free rfl), ⟨(hd_free rfl), (fun e h hs => F75.BJ3 call lf ro  e h hs)⟩⟩ (by kernel_rfl)

/-! ### internal/stringslite.HasPrefix: function 76 -/

noncomputable def F76.t (call : CT) (lf ro : Nat) (x0 : ByteArray) (x1 : ByteArray) (h : Heap) : Out :=
  letJ (fun (b4 : Bool) (h5 : Heap) =>
  (Out.ok (.bool b4) h5)) fun j6 =>
  ifK (decide ((x0.size : Int) ≥ (x1.size : Int))) (bindO (sliceO Tryd.prog 9 (.string x0) none (some (.int .i64 (x1.size : Int))) h) fun v7 h8 =>
  strK v7 fun s9 =>
  j6 (s9.toList == x1.toList) h8) (j6 false h)

noncomputable def F76.Ht (call : CT) (lf ro : Nat) (i : Nat) (e : Env) (h : Heap) : Out := .fail
noncomputable def F76.Ut (call : CT) (lf ro : Nat) (i : Nat) : Option (Env → Heap → Out) := none

theorem F76.le (call : CT) (lf ro : Nat) (x0 : ByteArray) (x1 : ByteArray) (h : Heap) : LeO (F76.t call lf ro x0 x1 h) (bodyK Tryd.prog call lf ro Tryd.f76 [.string x0, .string x1] h) :=
  body_le (c := codeOf Tryd.f76) (H := F76.Ht call lf ro) (J := F76.Ut call lf ro) rfl (Nat.le_of_ble_eq_true rfl) (hd_free rfl) (by kernel_rfl)

/-! ### strings.explode: function 77 -/

noncomputable def F77.J11 (call : CT) (lf ro : Nat) (s23 : ByteArray) (n24 : Int) (a25 : Option Addr) (l25 : Nat) (c25 : Nat) (h26 : Heap) : Out :=
  letJ (fun (h31 : Heap) =>
  (Out.ok (.slice a25 l25 c25) h31)) fun j32 =>
  ifK (decide (n24 > 0)) (bindO (idxO Tryd.prog 57 (.slice a25 l25 c25) (.int .i64 (IntKind.i64.wrap (n24 - 1))) h26) fun v33 h34 =>
  bindO (storeO Tryd.prog ro 9 v33 (.string s23) h34) fun v35 h36 =>
  j32 h36) (j32 h26)

noncomputable def F77.PJ11 (kb : ByteArray → Int → (Option Addr) → Nat → Nat → Heap → Out) (e : Env) (h : Heap) : Out :=
  getK (e.get 0) fun w0 =>
  strK w0 fun s37 =>
  getK (e.get 1) fun w1 =>
  intK .i64 w1 fun n38 =>
  getK (e.get 6) fun w6 =>
  sliceK w6 fun a39 l39 c39 =>
  kb s37 n38 a39 l39 c39 h

noncomputable def F77.L6 (call : CT) (lf ro : Nat) : Nat → ByteArray → Int → (Option Addr) → Nat → Nat → Int → Heap → Out
  | 0, _, _, _, _, _, _, _ => .fail
  | n + 1, s18, n19, a20, l20, c20, n21, h22 =>
  ifK (decide (n21 < IntKind.i64.wrap (n19 - 1))) (bindO (call ro 81 [.string s18] h22) fun v84 h85 =>
  tupK v84 fun q86 =>
  consK q86 fun x87 q88 =>
  intK .i32 x87 fun n89 =>
  consK q88 fun x90 q91 =>
  intK .i64 x90 fun n92 =>
  nilK q91 <|
  bindO (sliceO Tryd.prog 9 (.string s18) none (some (.int .i64 n92)) h85) fun v100 h101 =>
  strK v100 fun s102 =>
  bindO (idxO Tryd.prog 57 (.slice a20 l20 c20) (.int .i64 n21) h101) fun v103 h104 =>
  bindO (storeO Tryd.prog ro 9 v103 (.string s102) h104) fun v105 h106 =>
  bindO (sliceO Tryd.prog 9 (.string s18) (some (.int .i64 n92)) none h106) fun v110 h111 =>
  strK v110 fun s112 =>
  F77.L6 call lf ro n s112 n19 a20 l20 c20 (IntKind.i64.wrap (n21 + 1)) h111) (F77.J11 call lf ro s18 n19 a20 l20 c20 h22)

noncomputable def F77.P6 (kb : ByteArray → Int → (Option Addr) → Nat → Nat → Int → Heap → Out) (e : Env) (h : Heap) : Out :=
  getK (e.get 0) fun w0 =>
  strK w0 fun s113 =>
  getK (e.get 1) fun w1 =>
  intK .i64 w1 fun n114 =>
  getK (e.get 6) fun w6 =>
  sliceK w6 fun a115 l115 c115 =>
  getK (e.get 7) fun w7 =>
  intK .i64 w7 fun n116 =>
  kb s113 n114 a115 l115 c115 n116 h

noncomputable def F77.J4 (call : CT) (lf ro : Nat) (s9 : ByteArray) (n10 : Int) (h11 : Heap) : Out :=
  bindO (msliceO Tryd.prog 57 (.int .i64 n10) (.int .i64 n10) h11) fun v15 h16 =>
  sliceK v15 fun a17 l17 c17 =>
  F77.L6 call lf ro lf s9 n10 a17 l17 c17 0 h16

noncomputable def F77.PJ4 (kb : ByteArray → Int → Heap → Out) (e : Env) (h : Heap) : Out :=
  getK (e.get 0) fun w0 =>
  strK w0 fun s117 =>
  getK (e.get 1) fun w1 =>
  intK .i64 w1 fun n118 =>
  kb s117 n118 h

noncomputable def F77.t (call : CT) (lf ro : Nat) (x0 : ByteArray) (x1 : Int) (h : Heap) : Out :=
  bindO (call ro 80 [.string x0] h) fun v4 h5 =>
  intK .i64 v4 fun n6 =>
  letJ (fun (b7 : Bool) =>
  (ifK b7 (F77.J4 call lf ro x0 n6 h5) (F77.J4 call lf ro x0 x1 h5))) fun j8 =>
  ifK (decide (x1 < 0)) (j8 true) (j8 (decide (x1 > n6)))

noncomputable def F77.Ht (call : CT) (lf ro : Nat) (i : Nat) (e : Env) (h : Heap) : Out := ifK (i == 6) (F77.P6 (F77.L6 call lf ro lf) e h) (.fail)
noncomputable def F77.Ut (call : CT) (lf ro : Nat) (i : Nat) : Option (Env → Heap → Out) := ifJ (i == 11) (some (F77.PJ11 (F77.J11 call lf ro))) (ifJ (i == 4) (some (F77.PJ4 (F77.J4 call lf ro))) (none))

noncomputable def F77.H6 (call : CT) (lf ro : Nat) (kb6 : ByteArray → Int → (Option Addr) → Nat → Nat → Int → Heap → Out) (i : Nat) (e : Env) (h : Heap) : Out := ifK (i == 6) (F77.P6 (F77.L6 call lf ro lf) e h) (.fail)
noncomputable def F77.U6 (call : CT) (lf ro : Nat) (kb6 : ByteArray → Int → (Option Addr) → Nat → Nat → Int → Heap → Out) (i : Nat) : Option (Env → Heap → Out) := ifJ (i == 11) (some (F77.PJ11 (F77.J11 call lf ro))) (ifJ (i == 4) (some (F77.PJ4 (F77.J4 call lf ro))) (none))

noncomputable def F77.C6 (call : CT) (lf ro : Nat) : COut → Out := blockK 0 (seqH Tryd.prog call ro (F77.Ht call lf ro) (F77.Ut call lf ro) (sub (codeOf Tryd.f77) [true, true, true, true, true]) (endK Tryd.prog Tryd.f77))

noncomputable def F77.K6 (call : CT) (lf ro : Nat) : COut → Out := blockK 0 (seqK Tryd.prog call lf ro (sub (codeOf Tryd.f77) [true, true, true, true, true]) (endK Tryd.prog Tryd.f77))

noncomputable def F77.CJ11 (call : CT) (lf ro : Nat) : COut → Out := endK Tryd.prog Tryd.f77

noncomputable def F77.KJ11 (call : CT) (lf ro : Nat) : COut → Out := endK Tryd.prog Tryd.f77

noncomputable def F77.CJ4 (call : CT) (lf ro : Nat) : COut → Out := endK Tryd.prog Tryd.f77

noncomputable def F77.KJ4 (call : CT) (lf ro : Nat) : COut → Out := endK Tryd.prog Tryd.f77

theorem F77.RJ11 (call : CT) (lf ro : Nat) (f : Nat → Option Value) (s23 : ByteArray) (n24 : Int) (a25 : Option Addr) (l25 : Nat) (c25 : Nat) (h26 : Heap) :
    execH Tryd.prog call ro (F77.Ht call lf ro) (F77.Ut call lf ro) (sub (codeOf Tryd.f77) [true, true, true, true, true]) (EF 50 (updF (updF (updF f 0 (some (.string s23))) 1 (some (.int .i64 n24))) 6 (some (.slice a25 l25 c25)))) h26 (F77.CJ11 call lf ro) = F77.J11 call lf ro s23 n24 a25 l25 c25 h26 := by kernel_rfl

theorem F77.CKJ11 (call : CT) (lf ro : Nat) : KLe 50 (F77.CJ11 call lf ro) (F77.KJ11 call lf ro) :=
  (KLe.refl _)

theorem F77.BJ11 (call : CT) (lf ro : Nat) : ∀ e h, Shaped 50 e → LeO (F77.PJ11 (F77.J11 call lf ro) e h) (execK Tryd.prog call lf ro (sub (codeOf Tryd.f77) [true, true, true, true, true]) e h (F77.KJ11 call lf ro)) := by
    rintro e h ⟨f, rfl⟩
    unfold F77.PJ11
    refine getK_le fun w0 g0 => ?_
    rw [EF_get (by decide)] at g0
    refine strK_le fun s37 z119 => ?_
    subst z119
    refine getK_le fun w1 g1 => ?_
    rw [EF_get (by decide)] at g1
    refine intK_le fun n38 z120 => ?_
    subst z120
    refine getK_le fun w6 g6 => ?_
    rw [EF_get (by decide)] at g6
    refine sliceK_le fun a39 l39 c39 z121 => ?_
    subst z121
    have hr := F77.RJ11 call lf ro f s37 n38 a39 l39 c39 h
    rw [updF_same g0, updF_same g1, updF_same g6] at hr
    exact cut_le (H := (F77.Ht call lf ro)) (J := (F77.Ut call lf ro)) (F77.CKJ11 call lf ro) (hd_free rfl) hr

theorem F77.R6 (call : CT) (lf ro : Nat) (n : Nat) (f : Nat → Option Value) (s18 : ByteArray) (n19 : Int) (a20 : Option Addr) (l20 : Nat) (c20 : Nat) (n21 : Int) (h22 : Heap) :
    execH Tryd.prog call ro (F77.H6 call lf ro (F77.L6 call lf ro n)) (F77.U6 call lf ro (F77.L6 call lf ro n)) (sub (codeOf Tryd.f77) [true, true, true, true, false, true, false, false]) (EF 50 (updF (updF (updF (updF f 0 (some (.string s18))) 1 (some (.int .i64 n19))) 6 (some (.slice a20 l20 c20))) 7 (some (.int .i64 n21)))) h22 (outK (F77.P6 (F77.L6 call lf ro n)) (fun i e h => F77.C6 call lf ro (.exit i e h)) (fun e h => F77.C6 call lf ro (.ret e h))) = F77.L6 call lf ro (n + 1) s18 n19 a20 l20 c20 n21 h22 := by kernel_rfl

theorem F77.CK6 (call : CT) (lf ro : Nat) : KLe 50 (F77.C6 call lf ro) (F77.K6 call lf ro) :=
  (KLe.block (KLe.seq (H := (F77.Ht call lf ro)) (J := (F77.Ut call lf ro)) (KLe.refl _) (fun e h hs => F77.BJ11 call lf ro  e h hs)))

theorem F77.B6 (call : CT) (lf ro : Nat) : ∀ n e h, Shaped 50 e → LeO (F77.P6 (F77.L6 call lf ro n) e h) (loopK (execK Tryd.prog call lf ro (sub (codeOf Tryd.f77) [true, true, true, true, false, true, false, false])) n e h (F77.K6 call lf ro)) := by
  refine loop_le (fun e h k k' hs hk => execK_mono _ e h k k' hs hk) (kb := fun n => F77.P6 (F77.L6 call lf ro n)) (kx := fun i e h => F77.C6 call lf ro (.exit i e h)) (kr := fun e h => F77.C6 call lf ro (.ret e h)) ?_ ?_ (fun i e h hs => (F77.CK6 call lf ro).exit i e h hs) (fun e h hs => (F77.CK6 call lf ro).ret e h hs)
  · rintro e h ⟨f, rfl⟩
    unfold F77.P6
    refine getK_le fun w0 g0 => ?_
    rw [EF_get (by decide)] at g0
    refine strK_le fun s113 z125 => ?_
    subst z125
    refine getK_le fun w1 g1 => ?_
    rw [EF_get (by decide)] at g1
    refine intK_le fun n114 z126 => ?_
    subst z126
    refine getK_le fun w6 g6 => ?_
    rw [EF_get (by decide)] at g6
    refine sliceK_le fun a115 l115 c115 z127 => ?_
    subst z127
    refine getK_le fun w7 g7 => ?_
    rw [EF_get (by decide)] at g7
    refine intK_le fun n116 z128 => ?_
    subst z128
    exact LeO.refl _
  · rintro n e h ⟨f, rfl⟩
    unfold F77.P6
    refine getK_le fun w0 g0 => ?_
    rw [EF_get (by decide)] at g0
    refine strK_le fun s113 z129 => ?_
    subst z129
    refine getK_le fun w1 g1 => ?_
    rw [EF_get (by decide)] at g1
    refine intK_le fun n114 z130 => ?_
    subst z130
    refine getK_le fun w6 g6 => ?_
    rw [EF_get (by decide)] at g6
    refine sliceK_le fun a115 l115 c115 z131 => ?_
    subst z131
    refine getK_le fun w7 g7 => ?_
    rw [EF_get (by decide)] at g7
    refine intK_le fun n116 z132 => ?_
    subst z132
    have hr := F77.R6 call lf ro n f s113 n114 a115 l115 c115 n116 h
    rw [updF_same g0, updF_same g1, updF_same g6, updF_same g7] at hr
    exact round_le (H := (F77.H6 call lf ro (F77.L6 call lf ro n))) (J := (F77.U6 call lf ro (F77.L6 call lf ro n))) (hd_free rfl) hr

theorem F77.RJ4 (call : CT) (lf ro : Nat) (f : Nat → Option Value) (s9 : ByteArray) (n10 : Int) (h11 : Heap) :
    execH Tryd.prog call ro (F77.Ht call lf ro) (F77.Ut call lf ro) (sub (codeOf Tryd.f77) [true, true, true]) (EF 50 (updF (updF f 0 (some (.string s9))) 1 (some (.int .i64 n10)))) h11 (F77.CJ4 call lf ro) = F77.J4 call lf ro s9 n10 h11 := by kernel_rfl

theorem F77.CKJ4 (call : CT) (lf ro : Nat) : KLe 50 (F77.CJ4 call lf ro) (F77.KJ4 call lf ro) :=
  (KLe.refl _)

theorem F77.BJ4 (call : CT) (lf ro : Nat) : ∀ e h, Shaped 50 e → LeO (F77.PJ4 (F77.J4 call lf ro) e h) (execK Tryd.prog call lf ro (sub (codeOf Tryd.f77) [true, true, true]) e h (F77.KJ4 call lf ro)) := by
    rintro e h ⟨f, rfl⟩
    unfold F77.PJ4
    refine getK_le fun w0 g0 => ?_
    rw [EF_get (by decide)] at g0
    refine strK_le fun s117 z133 => ?_
    subst z133
    refine getK_le fun w1 g1 => ?_
    rw [EF_get (by decide)] at g1
    refine intK_le fun n118 z134 => ?_
    subst z134
    have hr := F77.RJ4 call lf ro f s117 n118 h
    rw [updF_same g0, updF_same g1] at hr
    exact cut_le (H := (F77.Ht call lf ro)) (J := (F77.Ut call lf ro)) (F77.CKJ4 call lf ro) ⟨(hd_free rfl), ⟨⟨(hd_free rfl), (fun e h hs => F77.B6 call lf ro  lf e h hs)⟩, (fun e h hs => F77.BJ11 call lf ro  e h hs)⟩⟩ hr

theorem F77.le (call : CT) (lf ro : Nat) (x0 : ByteArray) (x1 : Int) (h : Heap) : LeO (F77.t call lf ro x0 x1 h) (bodyK Tryd.prog call lf ro Tryd.f77 [.string x0, .int .i64 x1] h) :=
  body_le (c := codeOf Tryd.f77) (H := F77.Ht call lf ro) (J := F77.Ut call lf ro) rfl (Nat.le_of_ble_eq_true rfl) ⟨(hd_free rfl), ⟨(hd_free rfl), ⟨(hd_free rfl), (fun e h hs => F77.BJ4 call lf ro  e h hs)⟩⟩⟩ (by kernel_rfl)

/-! ### unicode/utf8.RuneCountInString: function 80 -/

noncomputable def F80.L2 (call : CT) (lf ro : Nat) : Nat → Int → Value → Heap → Out
  | 0, _, _, _ => .fail
  | n + 1, n5, v6, h7 =>
  letJ (fun (h18 : Heap) =>
  (Out.ok (.int .i64 n5) h18)) fun j19 =>
  bindO (nextOp ro v6 true h7) fun v25 h26 =>
  bindO (extractO Tryd.prog v25 0 h26) fun v27 h28 =>
  boolK v27 fun b29 =>
  ifK b29 (F80.L2 call lf ro n (IntKind.i64.wrap (n5 + 1)) v6 h28) (j19 h28)

noncomputable def F80.P2 (kb : Int → Value → Heap → Out) (e : Env) (h : Heap) : Out :=
  getK (e.get 2) fun w2 =>
  intK .i64 w2 fun n30 =>
  getK (e.get 4) fun w4 =>
  kb n30 w4 h

noncomputable def F80.t (call : CT) (lf ro : Nat) (x0 : ByteArray) (h : Heap) : Out :=
  bindO (.ok (ptrTo h.next) (h.push (.iter x0 0))) fun v3 h4 =>
  F80.L2 call lf ro lf 0 v3 h4

noncomputable def F80.Ht (call : CT) (lf ro : Nat) (i : Nat) (e : Env) (h : Heap) : Out := ifK (i == 2) (F80.P2 (F80.L2 call lf ro lf) e h) (.fail)
noncomputable def F80.Ut (call : CT) (lf ro : Nat) (i : Nat) : Option (Env → Heap → Out) := none

noncomputable def F80.H2 (call : CT) (lf ro : Nat) (kb2 : Int → Value → Heap → Out) (i : Nat) (e : Env) (h : Heap) : Out := ifK (i == 2) (F80.P2 (F80.L2 call lf ro lf) e h) (.fail)
noncomputable def F80.U2 (call : CT) (lf ro : Nat) (kb2 : Int → Value → Heap → Out) (i : Nat) : Option (Env → Heap → Out) := none

noncomputable def F80.C2 (call : CT) (lf ro : Nat) : COut → Out := blockK 0 (seqH Tryd.prog call ro (F80.Ht call lf ro) (F80.Ut call lf ro) (sub (codeOf Tryd.f80) [true, true]) (endK Tryd.prog Tryd.f80))

noncomputable def F80.K2 (call : CT) (lf ro : Nat) : COut → Out := blockK 0 (seqK Tryd.prog call lf ro (sub (codeOf Tryd.f80) [true, true]) (endK Tryd.prog Tryd.f80))

theorem F80.R2 (call : CT) (lf ro : Nat) (n : Nat) (f : Nat → Option Value) (n5 : Int) (v6 : Value) (h7 : Heap) :
    execH Tryd.prog call ro (F80.H2 call lf ro (F80.L2 call lf ro n)) (F80.U2 call lf ro (F80.L2 call lf ro n)) (sub (codeOf Tryd.f80) [true, false, true, false, false]) (EF 10 (updF (updF f 2 (some (.int .i64 n5))) 4 (some (v6)))) h7 (outK (F80.P2 (F80.L2 call lf ro n)) (fun i e h => F80.C2 call lf ro (.exit i e h)) (fun e h => F80.C2 call lf ro (.ret e h))) = F80.L2 call lf ro (n + 1) n5 v6 h7 := by kernel_rfl

theorem F80.CK2 (call : CT) (lf ro : Nat) : KLe 10 (F80.C2 call lf ro) (F80.K2 call lf ro) :=
  (KLe.block (KLe.seq (H := (F80.Ht call lf ro)) (J := (F80.Ut call lf ro)) (KLe.refl _) (hd_free rfl)))

theorem F80.B2 (call : CT) (lf ro : Nat) : ∀ n e h, Shaped 10 e → LeO (F80.P2 (F80.L2 call lf ro n) e h) (loopK (execK Tryd.prog call lf ro (sub (codeOf Tryd.f80) [true, false, true, false, false])) n e h (F80.K2 call lf ro)) := by
  refine loop_le (fun e h k k' hs hk => execK_mono _ e h k k' hs hk) (kb := fun n => F80.P2 (F80.L2 call lf ro n)) (kx := fun i e h => F80.C2 call lf ro (.exit i e h)) (kr := fun e h => F80.C2 call lf ro (.ret e h)) ?_ ?_ (fun i e h hs => (F80.CK2 call lf ro).exit i e h hs) (fun e h hs => (F80.CK2 call lf ro).ret e h hs)
  · rintro e h ⟨f, rfl⟩
    unfold F80.P2
    refine getK_le fun w2 g2 => ?_
    rw [EF_get (by decide)] at g2
    refine intK_le fun n30 z31 => ?_
    subst z31
    refine getK_le fun w4 g4 => ?_
    rw [EF_get (by decide)] at g4
    exact LeO.refl _
  · rintro n e h ⟨f, rfl⟩
    unfold F80.P2
    refine getK_le fun w2 g2 => ?_
    rw [EF_get (by decide)] at g2
    refine intK_le fun n30 z32 => ?_
    subst z32
    refine getK_le fun w4 g4 => ?_
    rw [EF_get (by decide)] at g4
    have hr := F80.R2 call lf ro n f n30 w4 h
    rw [updF_same g2, updF_same g4] at hr
    exact round_le (H := (F80.H2 call lf ro (F80.L2 call lf ro n))) (J := (F80.U2 call lf ro (F80.L2 call lf ro n))) (hd_free rfl) hr

theorem F80.le (call : CT) (lf ro : Nat) (x0 : ByteArray) (h : Heap) : LeO (F80.t call lf ro x0 h) (bodyK Tryd.prog call lf ro Tryd.f80 [.string x0] h) :=
  body_le (c := codeOf Tryd.f80) (H := F80.Ht call lf ro) (J := F80.Ut call lf ro) rfl (Nat.le_of_ble_eq_true rfl) ⟨(hd_free rfl), ⟨⟨(hd_free rfl), (fun e h hs => F80.B2 call lf ro  lf e h hs)⟩, (hd_free rfl)⟩⟩ (by kernel_rfl)

/-! ### unicode/utf8.DecodeRuneInString: function 81 -/

noncomputable def F81.J2 (call : CT) (lf ro : Nat) (s4 : ByteArray) (b5 : Bool) (h6 : Heap) : Out :=
  ifK b5 (bindO (indexO Tryd.prog 9 (.string s4) (.int .i64 0) h6) fun v40 h41 =>
  intK .u8 v40 fun n42 =>
  Out.ok (.tuple #[.int .i32 (IntKind.i32.wrap n42), .int .i64 1]) h41) (bindO (call ro 84 [.string s4] h6) fun v52 h53 =>
  tupK v52 fun q54 =>
  consK q54 fun x55 q56 =>
  intK .i32 x55 fun n57 =>
  consK q56 fun x58 q59 =>
  intK .i64 x58 fun n60 =>
  nilK q59 <|
  Out.ok (.tuple #[.int .i32 n57, .int .i64 n60]) h53)

noncomputable def F81.PJ2 (kb : ByteArray → Bool → Heap → Out) (e : Env) (h : Heap) : Out :=
  getK (e.get 0) fun w0 =>
  strK w0 fun s61 =>
  getK (e.get 10) fun w10 =>
  boolK w10 fun b62 =>
  kb s61 b62 h

noncomputable def F81.t (call : CT) (lf ro : Nat) (x0 : ByteArray) (h : Heap) : Out :=
  ifK (!(x0.toList == (⟨#[]⟩ : ByteArray).toList)) (bindO (indexO Tryd.prog 9 (.string x0) (.int .i64 0) h) fun v1 h2 =>
  intK .u8 v1 fun n3 =>
  F81.J2 call lf ro x0 (decide (n3 < 128)) h2) (F81.J2 call lf ro x0 false h)

noncomputable def F81.Ht (call : CT) (lf ro : Nat) (i : Nat) (e : Env) (h : Heap) : Out := .fail
noncomputable def F81.Ut (call : CT) (lf ro : Nat) (i : Nat) : Option (Env → Heap → Out) := ifJ (i == 2) (some (F81.PJ2 (F81.J2 call lf ro))) (none)

noncomputable def F81.CJ2 (call : CT) (lf ro : Nat) : COut → Out := seqH Tryd.prog call ro (F81.Ht call lf ro) (F81.Ut call lf ro) (sub (codeOf Tryd.f81) [true, true]) (endK Tryd.prog Tryd.f81)

noncomputable def F81.KJ2 (call : CT) (lf ro : Nat) : COut → Out := seqK Tryd.prog call lf ro (sub (codeOf Tryd.f81) [true, true]) (endK Tryd.prog Tryd.f81)

theorem F81.RJ2 (call : CT) (lf ro : Nat) (f : Nat → Option Value) (s4 : ByteArray) (b5 : Bool) (h6 : Heap) :
    execH Tryd.prog call ro (F81.Ht call lf ro) (F81.Ut call lf ro) (sub (codeOf Tryd.f81) [true, false, true]) (EF 19 (updF (updF f 0 (some (.string s4))) 10 (some (.bool b5)))) h6 (F81.CJ2 call lf ro) = F81.J2 call lf ro s4 b5 h6 := by kernel_rfl

theorem F81.CKJ2 (call : CT) (lf ro : Nat) : KLe 19 (F81.CJ2 call lf ro) (F81.KJ2 call lf ro) :=
  (KLe.seq (H := (F81.Ht call lf ro)) (J := (F81.Ut call lf ro)) (KLe.refl _) (hd_free rfl))

theorem F81.BJ2 (call : CT) (lf ro : Nat) : ∀ e h, Shaped 19 e → LeO (F81.PJ2 (F81.J2 call lf ro) e h) (execK Tryd.prog call lf ro (sub (codeOf Tryd.f81) [true, false, true]) e h (F81.KJ2 call lf ro)) := by
    rintro e h ⟨f, rfl⟩
    unfold F81.PJ2
    refine getK_le fun w0 g0 => ?_
    rw [EF_get (by decide)] at g0
    refine strK_le fun s61 z63 => ?_
    subst z63
    refine getK_le fun w10 g10 => ?_
    rw [EF_get (by decide)] at g10
    refine boolK_le fun b62 z64 => ?_
    subst z64
    have hr := F81.RJ2 call lf ro f s61 b62 h
    rw [updF_same g0, updF_same g10] at hr
    exact cut_le (H := (F81.Ht call lf ro)) (J := (F81.Ut call lf ro)) (F81.CKJ2 call lf ro) (hd_free rfl) hr

theorem F81.le (call : CT) (lf ro : Nat) (x0 : ByteArray) (h : Heap) : LeO (F81.t call lf ro x0 h) (bodyK Tryd.prog call lf ro Tryd.f81 [.string x0] h) :=
  body_le (c := codeOf Tryd.f81) (H := F81.Ht call lf ro) (J := F81.Ut call lf ro) rfl (Nat.le_of_ble_eq_true rfl) ⟨(hd_free rfl), ⟨⟨(hd_free rfl), (fun e h hs => F81.BJ2 call lf ro  e h hs)⟩, (hd_free rfl)⟩⟩ (by kernel_rfl)

end Go.Proofs.YtfadfpcelhdfbaaDoor
