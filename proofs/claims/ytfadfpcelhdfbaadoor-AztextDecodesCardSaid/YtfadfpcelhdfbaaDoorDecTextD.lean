/-
  The functions that decode, the reference's and the law, as the interpreter runs them, written out; no statement of the seat is proved in this file.
-/
import Derived.Test.YtfadfpcelhdfbaaDoorProg
import Derived.KernelRfl
import Derived.Test.YtfadfpcelhdfbaaDoorAbsG
open Go Go.Abs Go.Proofs
set_option maxRecDepth 100000
set_option linter.unusedVariables false
namespace Go.Proofs.YtfadfpcelhdfbaaDoor

/-! ### barscan/aztext.width: function 51 -/

noncomputable def F51.t (call : CT) (lf ro : Nat) (x0 : Int) (h : Heap) : Out :=
  ifK (x0 == 4) (Out.ok (.int .i64 4) h) (Out.ok (.int .i64 5) h)

noncomputable def F51.Ht (call : CT) (lf ro : Nat) (i : Nat) (e : Env) (h : Heap) : Out := .fail
noncomputable def F51.Ut (call : CT) (lf ro : Nat) (i : Nat) : Option (Env → Heap → Out) := none

theorem F51.le (call : CT) (lf ro : Nat) (x0 : Int) (h : Heap) : LeO (F51.t call lf ro x0 h) (bodyK Tryd.prog call lf ro Tryd.f51 [.int .i64 x0] h) :=
  body_le (c := codeOf Tryd.f51) (H := F51.Ht call lf ro) (J := F51.Ut call lf ro) rfl (Nat.le_of_ble_eq_true rfl) (hd_free rfl) (by kernel_rfl)

/-! ### barscan/aztext.shift: function 53 -/

noncomputable def F53.J2 (call : CT) (lf ro : Nat) (n1 : Int) (n2 : Int) (b3 : Bool) (h4 : Heap) : Out :=
  letJ ((Out.ok (.int .i64 (-1)) h4)) fun j13 =>
  ifK b3 (Out.ok (.int .i64 3) h4) (letJ (fun (b18 : Bool) =>
  (letJ (fun (b20 : Bool) =>
  (ifK b20 (Out.ok (.int .i64 0) h4) (j13))) fun j21 =>
  ifK b18 (j21 b18) (ifK (n1 == 4) (j21 (n2 == 15)) (j21 false)))) fun j19 =>
  ifK (n1 == 1) (j19 (n2 == 28)) (j19 false))

noncomputable def F53.PJ2 (kb : Int → Int → Bool → Heap → Out) (e : Env) (h : Heap) : Out :=
  getK (e.get 0) fun w0 =>
  intK .i64 w0 fun n22 =>
  getK (e.get 1) fun w1 =>
  intK .i64 w1 fun n23 =>
  getK (e.get 5) fun w5 =>
  boolK w5 fun b24 =>
  kb n22 n23 b24 h

noncomputable def F53.t (call : CT) (lf ro : Nat) (x0 : Int) (x1 : Int) (h : Heap) : Out :=
  ifK (x0 != 3) (F53.J2 call lf ro x0 x1 (x1 == 0) h) (F53.J2 call lf ro x0 x1 false h)

noncomputable def F53.Ht (call : CT) (lf ro : Nat) (i : Nat) (e : Env) (h : Heap) : Out := .fail
noncomputable def F53.Ut (call : CT) (lf ro : Nat) (i : Nat) : Option (Env → Heap → Out) := ifJ (i == 2) (some (F53.PJ2 (F53.J2 call lf ro))) (none)

noncomputable def F53.CJ2 (call : CT) (lf ro : Nat) : COut → Out := blockK 0 (seqH Tryd.prog call ro (F53.Ht call lf ro) (F53.Ut call lf ro) (sub (codeOf Tryd.f53) [true, true]) (endK Tryd.prog Tryd.f53))

noncomputable def F53.KJ2 (call : CT) (lf ro : Nat) : COut → Out := blockK 0 (seqK Tryd.prog call lf ro (sub (codeOf Tryd.f53) [true, true]) (endK Tryd.prog Tryd.f53))

theorem F53.RJ2 (call : CT) (lf ro : Nat) (f : Nat → Option Value) (n1 : Int) (n2 : Int) (b3 : Bool) (h4 : Heap) :
    execH Tryd.prog call ro (F53.Ht call lf ro) (F53.Ut call lf ro) (sub (codeOf Tryd.f53) [true, false, false, true]) (EF 25 (updF (updF (updF f 0 (some (.int .i64 n1))) 1 (some (.int .i64 n2))) 5 (some (.bool b3)))) h4 (F53.CJ2 call lf ro) = F53.J2 call lf ro n1 n2 b3 h4 := by kernel_rfl

theorem F53.CKJ2 (call : CT) (lf ro : Nat) : KLe 25 (F53.CJ2 call lf ro) (F53.KJ2 call lf ro) :=
  (KLe.block (KLe.seq (H := (F53.Ht call lf ro)) (J := (F53.Ut call lf ro)) (KLe.refl _) (hd_free rfl)))

theorem F53.BJ2 (call : CT) (lf ro : Nat) : ∀ e h, Shaped 25 e → LeO (F53.PJ2 (F53.J2 call lf ro) e h) (execK Tryd.prog call lf ro (sub (codeOf Tryd.f53) [true, false, false, true]) e h (F53.KJ2 call lf ro)) := by
    rintro e h ⟨f, rfl⟩
    unfold F53.PJ2
    refine getK_le fun w0 g0 => ?_
    rw [EF_get (by decide)] at g0
    refine intK_le fun n22 z25 => ?_
    subst z25
    refine getK_le fun w1 g1 => ?_
    rw [EF_get (by decide)] at g1
    refine intK_le fun n23 z26 => ?_
    subst z26
    refine getK_le fun w5 g5 => ?_
    rw [EF_get (by decide)] at g5
    refine boolK_le fun b24 z27 => ?_
    subst z27
    have hr := F53.RJ2 call lf ro f n22 n23 b24 h
    rw [updF_same g0, updF_same g1, updF_same g5] at hr
    exact cut_le (H := (F53.Ht call lf ro)) (J := (F53.Ut call lf ro)) (F53.CKJ2 call lf ro) (hd_free rfl) hr

theorem F53.le (call : CT) (lf ro : Nat) (x0 : Int) (x1 : Int) (h : Heap) : LeO (F53.t call lf ro x0 x1 h) (bodyK Tryd.prog call lf ro Tryd.f53 [.int .i64 x0, .int .i64 x1] h) :=
  body_le (c := codeOf Tryd.f53) (H := F53.Ht call lf ro) (J := F53.Ut call lf ro) rfl (Nat.le_of_ble_eq_true rfl) ⟨(hd_free rfl), ⟨⟨(hd_free rfl), (fun e h hs => F53.BJ2 call lf ro  e h hs)⟩, (hd_free rfl)⟩⟩ (by kernel_rfl)

/-! ### barscan/aztext.latch: function 54 -/

noncomputable def F54.J13 (call : CT) (lf ro : Nat) (n22 : Int) (n23 : Int) (b24 : Bool) (h25 : Heap) : Out :=
  letJ ((Out.ok (.int .i64 (-1)) h25)) fun j30 =>
  ifK b24 (Out.ok (.int .i64 0) h25) (letJ (fun (b33 : Bool) =>
  (ifK b33 (Out.ok (.int .i64 3) h25) (j30))) fun j34 =>
  ifK (n22 == 2) (j34 (n23 == 30)) (j34 false))

noncomputable def F54.PJ13 (kb : Int → Int → Bool → Heap → Out) (e : Env) (h : Heap) : Out :=
  getK (e.get 0) fun w0 =>
  intK .i64 w0 fun n35 =>
  getK (e.get 1) fun w1 =>
  intK .i64 w1 fun n36 =>
  getK (e.get 44) fun w44 =>
  boolK w44 fun b37 =>
  kb n35 n36 b37 h

noncomputable def F54.J9 (call : CT) (lf ro : Nat) (n16 : Int) (n17 : Int) (b18 : Bool) (h19 : Heap) : Out :=
  ifK b18 (Out.ok (.int .i64 4) h19) (letJ (fun (b56 : Bool) =>
  (ifK b56 (F54.J13 call lf ro n16 n17 b56 h19) (letJ (fun (b58 : Bool) =>
  (ifK b58 (F54.J13 call lf ro n16 n17 b58 h19) (ifK (n16 == 4) (F54.J13 call lf ro n16 n17 (n17 == 14) h19) (F54.J13 call lf ro n16 n17 false h19)))) fun j59 =>
  ifK (n16 == 3) (j59 (n17 == 31)) (j59 false)))) fun j57 =>
  ifK (n16 == 2) (j57 (n17 == 29)) (j57 false))

noncomputable def F54.PJ9 (kb : Int → Int → Bool → Heap → Out) (e : Env) (h : Heap) : Out :=
  getK (e.get 0) fun w0 =>
  intK .i64 w0 fun n60 =>
  getK (e.get 1) fun w1 =>
  intK .i64 w1 fun n61 =>
  getK (e.get 31) fun w31 =>
  boolK w31 fun b62 =>
  kb n60 n61 b62 h

noncomputable def F54.J6 (call : CT) (lf ro : Nat) (n10 : Int) (n11 : Int) (b12 : Bool) (h13 : Heap) : Out :=
  ifK b12 (Out.ok (.int .i64 2) h13) (letJ (fun (b71 : Bool) =>
  (ifK b71 (F54.J9 call lf ro n10 n11 b71 h13) (ifK (n10 == 1) (F54.J9 call lf ro n10 n11 (n11 == 30) h13) (F54.J9 call lf ro n10 n11 false h13)))) fun j72 =>
  ifK (n10 == 0) (j72 (n11 == 30)) (j72 false))

noncomputable def F54.PJ6 (kb : Int → Int → Bool → Heap → Out) (e : Env) (h : Heap) : Out :=
  getK (e.get 0) fun w0 =>
  intK .i64 w0 fun n73 =>
  getK (e.get 1) fun w1 =>
  intK .i64 w1 fun n74 =>
  getK (e.get 18) fun w18 =>
  boolK w18 fun b75 =>
  kb n73 n74 b75 h

noncomputable def F54.J3 (call : CT) (lf ro : Nat) (n4 : Int) (n5 : Int) (b6 : Bool) (h7 : Heap) : Out :=
  ifK b6 (Out.ok (.int .i64 1) h7) (letJ (fun (b84 : Bool) =>
  (ifK b84 (F54.J6 call lf ro n4 n5 b84 h7) (ifK (n4 == 1) (F54.J6 call lf ro n4 n5 (n5 == 29) h7) (F54.J6 call lf ro n4 n5 false h7)))) fun j85 =>
  ifK (n4 == 0) (j85 (n5 == 29)) (j85 false))

noncomputable def F54.PJ3 (kb : Int → Int → Bool → Heap → Out) (e : Env) (h : Heap) : Out :=
  getK (e.get 0) fun w0 =>
  intK .i64 w0 fun n86 =>
  getK (e.get 1) fun w1 =>
  intK .i64 w1 fun n87 =>
  getK (e.get 5) fun w5 =>
  boolK w5 fun b88 =>
  kb n86 n87 b88 h

noncomputable def F54.t (call : CT) (lf ro : Nat) (x0 : Int) (x1 : Int) (h : Heap) : Out :=
  letJ (fun (b89 : Bool) =>
  (ifK b89 (F54.J3 call lf ro x0 x1 b89 h) (ifK (x0 == 2) (F54.J3 call lf ro x0 x1 (x1 == 28) h) (F54.J3 call lf ro x0 x1 false h)))) fun j90 =>
  ifK (x0 == 0) (j90 (x1 == 28)) (j90 false)

noncomputable def F54.Ht (call : CT) (lf ro : Nat) (i : Nat) (e : Env) (h : Heap) : Out := .fail
noncomputable def F54.Ut (call : CT) (lf ro : Nat) (i : Nat) : Option (Env → Heap → Out) := ifJ (i == 13) (some (F54.PJ13 (F54.J13 call lf ro))) (ifJ (i == 9) (some (F54.PJ9 (F54.J9 call lf ro))) (ifJ (i == 6) (some (F54.PJ6 (F54.J6 call lf ro))) (ifJ (i == 3) (some (F54.PJ3 (F54.J3 call lf ro))) (none))))

noncomputable def F54.CJ13 (call : CT) (lf ro : Nat) : COut → Out := blockK 0 (seqH Tryd.prog call ro (F54.Ht call lf ro) (F54.Ut call lf ro) (sub (codeOf Tryd.f54) [true, true]) (endK Tryd.prog Tryd.f54))

noncomputable def F54.KJ13 (call : CT) (lf ro : Nat) : COut → Out := blockK 0 (seqK Tryd.prog call lf ro (sub (codeOf Tryd.f54) [true, true]) (endK Tryd.prog Tryd.f54))

noncomputable def F54.CJ9 (call : CT) (lf ro : Nat) : COut → Out := blockK 0 (seqH Tryd.prog call ro (F54.Ht call lf ro) (F54.Ut call lf ro) (sub (codeOf Tryd.f54) [true, true]) (endK Tryd.prog Tryd.f54))

noncomputable def F54.KJ9 (call : CT) (lf ro : Nat) : COut → Out := blockK 0 (seqK Tryd.prog call lf ro (sub (codeOf Tryd.f54) [true, true]) (endK Tryd.prog Tryd.f54))

noncomputable def F54.CJ6 (call : CT) (lf ro : Nat) : COut → Out := blockK 0 (seqH Tryd.prog call ro (F54.Ht call lf ro) (F54.Ut call lf ro) (sub (codeOf Tryd.f54) [true, true]) (endK Tryd.prog Tryd.f54))

noncomputable def F54.KJ6 (call : CT) (lf ro : Nat) : COut → Out := blockK 0 (seqK Tryd.prog call lf ro (sub (codeOf Tryd.f54) [true, true]) (endK Tryd.prog Tryd.f54))

noncomputable def F54.CJ3 (call : CT) (lf ro : Nat) : COut → Out := blockK 0 (seqH Tryd.prog call ro (F54.Ht call lf ro) (F54.Ut call lf ro) (sub (codeOf Tryd.f54) [true, true]) (endK Tryd.prog Tryd.f54))

noncomputable def F54.KJ3 (call : CT) (lf ro : Nat) : COut → Out := blockK 0 (seqK Tryd.prog call lf ro (sub (codeOf Tryd.f54) [true, true]) (endK Tryd.prog Tryd.f54))

theorem F54.RJ13 (call : CT) (lf ro : Nat) (f : Nat → Option Value) (n22 : Int) (n23 : Int) (b24 : Bool) (h25 : Heap) :
    execH Tryd.prog call ro (F54.Ht call lf ro) (F54.Ut call lf ro) (sub (codeOf Tryd.f54) [true, false, false, true, true, true, true, true, true, true]) (EF 70 (updF (updF (updF f 0 (some (.int .i64 n22))) 1 (some (.int .i64 n23))) 44 (some (.bool b24)))) h25 (F54.CJ13 call lf ro) = F54.J13 call lf ro n22 n23 b24 h25 := by kernel_rfl

theorem F54.CKJ13 (call : CT) (lf ro : Nat) : KLe 70 (F54.CJ13 call lf ro) (F54.KJ13 call lf ro) :=
  (KLe.block (KLe.seq (H := (F54.Ht call lf ro)) (J := (F54.Ut call lf ro)) (KLe.refl _) (hd_free rfl)))

theorem F54.BJ13 (call : CT) (lf ro : Nat) : ∀ e h, Shaped 70 e → LeO (F54.PJ13 (F54.J13 call lf ro) e h) (execK Tryd.prog call lf ro (sub (codeOf Tryd.f54) [true, false, false, true, true, true, true, true, true, true]) e h (F54.KJ13 call lf ro)) := by
    rintro e h ⟨f, rfl⟩
    unfold F54.PJ13
    refine getK_le fun w0 g0 => ?_
    rw [EF_get (by decide)] at g0
    refine intK_le fun n35 z91 => ?_
    subst z91
    refine getK_le fun w1 g1 => ?_
    rw [EF_get (by decide)] at g1
    refine intK_le fun n36 z92 => ?_
    subst z92
    refine getK_le fun w44 g44 => ?_
    rw [EF_get (by decide)] at g44
    refine boolK_le fun b37 z93 => ?_
    subst z93
    have hr := F54.RJ13 call lf ro f n35 n36 b37 h
    rw [updF_same g0, updF_same g1, updF_same g44] at hr
    exact cut_le (H := (F54.Ht call lf ro)) (J := (F54.Ut call lf ro)) (F54.CKJ13 call lf ro) (hd_free rfl) hr

theorem F54.RJ9 (call : CT) (lf ro : Nat) (f : Nat → Option Value) (n16 : Int) (n17 : Int) (b18 : Bool) (h19 : Heap) :
    execH Tryd.prog call ro (F54.Ht call lf ro) (F54.Ut call lf ro) (sub (codeOf Tryd.f54) [true, false, false, true, true, true, true, true]) (EF 70 (updF (updF (updF f 0 (some (.int .i64 n16))) 1 (some (.int .i64 n17))) 31 (some (.bool b18)))) h19 (F54.CJ9 call lf ro) = F54.J9 call lf ro n16 n17 b18 h19 := by kernel_rfl

theorem F54.CKJ9 (call : CT) (lf ro : Nat) : KLe 70 (F54.CJ9 call lf ro) (F54.KJ9 call lf ro) :=
  (KLe.block (KLe.seq (H := (F54.Ht call lf ro)) (J := (F54.Ut call lf ro)) (KLe.refl _) (hd_free rfl)))

theorem F54.BJ9 (call : CT) (lf ro : Nat) : ∀ e h, Shaped 70 e → LeO (F54.PJ9 (F54.J9 call lf ro) e h) (execK Tryd.prog call lf ro (sub (codeOf Tryd.f54) [true, false, false, true, true, true, true, true]) e h (F54.KJ9 call lf ro)) := by
    rintro e h ⟨f, rfl⟩
    unfold F54.PJ9
    refine getK_le fun w0 g0 => ?_
    rw [EF_get (by decide)] at g0
    refine intK_le fun n60 z97 => ?_
    subst z97
    refine getK_le fun w1 g1 => ?_
    rw [EF_get (by decide)] at g1
    refine intK_le fun n61 z98 => ?_
    subst z98
    refine getK_le fun w31 g31 => ?_
    rw [EF_get (by decide)] at g31
    refine boolK_le fun b62 z99 => ?_
    subst z99
    have hr := F54.RJ9 call lf ro f n60 n61 b62 h
    rw [updF_same g0, updF_same g1, updF_same g31] at hr
    exact cut_le (H := (F54.Ht call lf ro)) (J := (F54.Ut call lf ro)) (F54.CKJ9 call lf ro) ⟨(hd_free rfl), ⟨(hd_free rfl), (fun e h hs => F54.BJ13 call lf ro  e h hs)⟩⟩ hr

theorem F54.RJ6 (call : CT) (lf ro : Nat) (f : Nat → Option Value) (n10 : Int) (n11 : Int) (b12 : Bool) (h13 : Heap) :
    execH Tryd.prog call ro (F54.Ht call lf ro) (F54.Ut call lf ro) (sub (codeOf Tryd.f54) [true, false, false, true, true, true]) (EF 70 (updF (updF (updF f 0 (some (.int .i64 n10))) 1 (some (.int .i64 n11))) 18 (some (.bool b12)))) h13 (F54.CJ6 call lf ro) = F54.J6 call lf ro n10 n11 b12 h13 := by kernel_rfl

theorem F54.CKJ6 (call : CT) (lf ro : Nat) : KLe 70 (F54.CJ6 call lf ro) (F54.KJ6 call lf ro) :=
  (KLe.block (KLe.seq (H := (F54.Ht call lf ro)) (J := (F54.Ut call lf ro)) (KLe.refl _) (hd_free rfl)))

theorem F54.BJ6 (call : CT) (lf ro : Nat) : ∀ e h, Shaped 70 e → LeO (F54.PJ6 (F54.J6 call lf ro) e h) (execK Tryd.prog call lf ro (sub (codeOf Tryd.f54) [true, false, false, true, true, true]) e h (F54.KJ6 call lf ro)) := by
    rintro e h ⟨f, rfl⟩
    unfold F54.PJ6
    refine getK_le fun w0 g0 => ?_
    rw [EF_get (by decide)] at g0
    refine intK_le fun n73 z103 => ?_
    subst z103
    refine getK_le fun w1 g1 => ?_
    rw [EF_get (by decide)] at g1
    refine intK_le fun n74 z104 => ?_
    subst z104
    refine getK_le fun w18 g18 => ?_
    rw [EF_get (by decide)] at g18
    refine boolK_le fun b75 z105 => ?_
    subst z105
    have hr := F54.RJ6 call lf ro f n73 n74 b75 h
    rw [updF_same g0, updF_same g1, updF_same g18] at hr
    exact cut_le (H := (F54.Ht call lf ro)) (J := (F54.Ut call lf ro)) (F54.CKJ6 call lf ro) ⟨(hd_free rfl), ⟨(hd_free rfl), (fun e h hs => F54.BJ9 call lf ro  e h hs)⟩⟩ hr

theorem F54.RJ3 (call : CT) (lf ro : Nat) (f : Nat → Option Value) (n4 : Int) (n5 : Int) (b6 : Bool) (h7 : Heap) :
    execH Tryd.prog call ro (F54.Ht call lf ro) (F54.Ut call lf ro) (sub (codeOf Tryd.f54) [true, false, false, true]) (EF 70 (updF (updF (updF f 0 (some (.int .i64 n4))) 1 (some (.int .i64 n5))) 5 (some (.bool b6)))) h7 (F54.CJ3 call lf ro) = F54.J3 call lf ro n4 n5 b6 h7 := by kernel_rfl

theorem F54.CKJ3 (call : CT) (lf ro : Nat) : KLe 70 (F54.CJ3 call lf ro) (F54.KJ3 call lf ro) :=
  (KLe.block (KLe.seq (H := (F54.Ht call lf ro)) (J := (F54.Ut call lf ro)) (KLe.refl _) (hd_free rfl)))

theorem F54.BJ3 (call : CT) (lf ro : Nat) : ∀ e h, Shaped 70 e → LeO (F54.PJ3 (F54.J3 call lf ro) e h) (execK Tryd.prog call lf ro (sub (codeOf Tryd.f54) [true, false, false, true]) e h (F54.KJ3 call lf ro)) := by
    rintro e h ⟨f, rfl⟩
    unfold F54.PJ3
    refine getK_le fun w0 g0 => ?_
    rw [EF_get (by decide)] at g0
    refine intK_le fun n86 z109 => ?_
    subst z109
    refine getK_le fun w1 g1 => ?_
    rw [EF_get (by decide)] at g1
    refine intK_le fun n87 z110 => ?_
    subst z110
    refine getK_le fun w5 g5 => ?_
    rw [EF_get (by decide)] at g5
    refine boolK_le fun b88 z111 => ?_
    subst z111
    have hr := F54.RJ3 call lf ro f n86 n87 b88 h
    rw [updF_same g0, updF_same g1, updF_same g5] at hr
    exact cut_le (H := (F54.Ht call lf ro)) (J := (F54.Ut call lf ro)) (F54.CKJ3 call lf ro) ⟨(hd_free rfl), ⟨(hd_free rfl), (fun e h hs => F54.BJ6 call lf ro  e h hs)⟩⟩ hr

theorem F54.le (call : CT) (lf ro : Nat) (x0 : Int) (x1 : Int) (h : Heap) : LeO (F54.t call lf ro x0 x1 h) (bodyK Tryd.prog call lf ro Tryd.f54 [.int .i64 x0, .int .i64 x1] h) :=
  body_le (c := codeOf Tryd.f54) (H := F54.Ht call lf ro) (J := F54.Ut call lf ro) rfl (Nat.le_of_ble_eq_true rfl) ⟨(hd_free rfl), ⟨⟨(hd_free rfl), (fun e h hs => F54.BJ3 call lf ro  e h hs)⟩, (hd_free rfl)⟩⟩ (by kernel_rfl)

/-! ### barscan/barscanref27.width: function 57 -/

noncomputable def F57.t (call : CT) (lf ro : Nat) (x0 : Int) (h : Heap) : Out :=
  ifK (x0 == 4) (Out.ok (.int .i64 4) h) (Out.ok (.int .i64 5) h)

noncomputable def F57.Ht (call : CT) (lf ro : Nat) (i : Nat) (e : Env) (h : Heap) : Out := .fail
noncomputable def F57.Ut (call : CT) (lf ro : Nat) (i : Nat) : Option (Env → Heap → Out) := none

theorem F57.le (call : CT) (lf ro : Nat) (x0 : Int) (h : Heap) : LeO (F57.t call lf ro x0 h) (bodyK Tryd.prog call lf ro Tryd.f57 [.int .i64 x0] h) :=
  body_le (c := codeOf Tryd.f57) (H := F57.Ht call lf ro) (J := F57.Ut call lf ro) rfl (Nat.le_of_ble_eq_true rfl) (hd_free rfl) (by kernel_rfl)

/-! ### barscan/barscanref27.latch: function 60 -/

noncomputable def F60.J8 (call : CT) (lf ro : Nat) (n13 : Int) (n14 : Int) (b15 : Bool) (h16 : Heap) : Out :=
  letJ ((Out.ok (.int .i64 (-1)) h16)) fun j21 =>
  ifK b15 (Out.ok (.int .i64 0) h16) (letJ (fun (b24 : Bool) =>
  (ifK b24 (Out.ok (.int .i64 3) h16) (j21))) fun j25 =>
  ifK (n13 == 2) (j25 (n14 == 30)) (j25 false))

noncomputable def F60.PJ8 (kb : Int → Int → Bool → Heap → Out) (e : Env) (h : Heap) : Out :=
  getK (e.get 0) fun w0 =>
  intK .i64 w0 fun n26 =>
  getK (e.get 1) fun w1 =>
  intK .i64 w1 fun n27 =>
  getK (e.get 34) fun w34 =>
  boolK w34 fun b28 =>
  kb n26 n27 b28 h

noncomputable def F60.J6 (call : CT) (lf ro : Nat) (n9 : Int) (n10 : Int) (b11 : Bool) (h12 : Heap) : Out :=
  ifK b11 (Out.ok (.int .i64 4) h12) (ifK (n9 == 2) (ifK (n10 == 29) (F60.J8 call lf ro n9 n10 true h12) (ifK (n9 == 3) (ifK (n10 == 31) (F60.J8 call lf ro n9 n10 true h12) (ifK (n9 == 4) (F60.J8 call lf ro n9 n10 (n10 == 14) h12) (F60.J8 call lf ro n9 n10 false h12))) (ifK (n9 == 4) (F60.J8 call lf ro n9 n10 (n10 == 14) h12) (F60.J8 call lf ro n9 n10 false h12)))) (ifK (n9 == 3) (ifK (n10 == 31) (F60.J8 call lf ro n9 n10 true h12) (ifK (n9 == 4) (F60.J8 call lf ro n9 n10 (n10 == 14) h12) (F60.J8 call lf ro n9 n10 false h12))) (ifK (n9 == 4) (F60.J8 call lf ro n9 n10 (n10 == 14) h12) (F60.J8 call lf ro n9 n10 false h12))))

noncomputable def F60.PJ6 (kb : Int → Int → Bool → Heap → Out) (e : Env) (h : Heap) : Out :=
  getK (e.get 0) fun w0 =>
  intK .i64 w0 fun n29 =>
  getK (e.get 1) fun w1 =>
  intK .i64 w1 fun n30 =>
  getK (e.get 27) fun w27 =>
  boolK w27 fun b31 =>
  kb n29 n30 b31 h

noncomputable def F60.J4 (call : CT) (lf ro : Nat) (n5 : Int) (n6 : Int) (b7 : Bool) (h8 : Heap) : Out :=
  ifK b7 (Out.ok (.int .i64 2) h8) (ifK (decide (n5 ≤ 1)) (F60.J6 call lf ro n5 n6 (n6 == 30) h8) (F60.J6 call lf ro n5 n6 false h8))

noncomputable def F60.PJ4 (kb : Int → Int → Bool → Heap → Out) (e : Env) (h : Heap) : Out :=
  getK (e.get 0) fun w0 =>
  intK .i64 w0 fun n32 =>
  getK (e.get 1) fun w1 =>
  intK .i64 w1 fun n33 =>
  getK (e.get 20) fun w20 =>
  boolK w20 fun b34 =>
  kb n32 n33 b34 h

noncomputable def F60.J2 (call : CT) (lf ro : Nat) (n1 : Int) (n2 : Int) (b3 : Bool) (h4 : Heap) : Out :=
  ifK b3 (Out.ok (.int .i64 1) h4) (ifK (decide (n1 ≤ 1)) (F60.J4 call lf ro n1 n2 (n2 == 29) h4) (F60.J4 call lf ro n1 n2 false h4))

noncomputable def F60.PJ2 (kb : Int → Int → Bool → Heap → Out) (e : Env) (h : Heap) : Out :=
  getK (e.get 0) fun w0 =>
  intK .i64 w0 fun n35 =>
  getK (e.get 1) fun w1 =>
  intK .i64 w1 fun n36 =>
  getK (e.get 5) fun w5 =>
  boolK w5 fun b37 =>
  kb n35 n36 b37 h

noncomputable def F60.t (call : CT) (lf ro : Nat) (x0 : Int) (x1 : Int) (h : Heap) : Out :=
  ifK (x0 == 0) (ifK (x1 == 28) (F60.J2 call lf ro x0 x1 true h) (ifK (x0 == 2) (F60.J2 call lf ro x0 x1 (x1 == 28) h) (F60.J2 call lf ro x0 x1 false h))) (ifK (x0 == 2) (F60.J2 call lf ro x0 x1 (x1 == 28) h) (F60.J2 call lf ro x0 x1 false h))

noncomputable def F60.Ht (call : CT) (lf ro : Nat) (i : Nat) (e : Env) (h : Heap) : Out := .fail
noncomputable def F60.Ut (call : CT) (lf ro : Nat) (i : Nat) : Option (Env → Heap → Out) := ifJ (i == 8) (some (F60.PJ8 (F60.J8 call lf ro))) (ifJ (i == 6) (some (F60.PJ6 (F60.J6 call lf ro))) (ifJ (i == 4) (some (F60.PJ4 (F60.J4 call lf ro))) (ifJ (i == 2) (some (F60.PJ2 (F60.J2 call lf ro))) (none))))

noncomputable def F60.CJ8 (call : CT) (lf ro : Nat) : COut → Out := blockK 0 (seqH Tryd.prog call ro (F60.Ht call lf ro) (F60.Ut call lf ro) (sub (codeOf Tryd.f60) [true, true]) (endK Tryd.prog Tryd.f60))

noncomputable def F60.KJ8 (call : CT) (lf ro : Nat) : COut → Out := blockK 0 (seqK Tryd.prog call lf ro (sub (codeOf Tryd.f60) [true, true]) (endK Tryd.prog Tryd.f60))

noncomputable def F60.CJ6 (call : CT) (lf ro : Nat) : COut → Out := blockK 0 (seqH Tryd.prog call ro (F60.Ht call lf ro) (F60.Ut call lf ro) (sub (codeOf Tryd.f60) [true, true]) (endK Tryd.prog Tryd.f60))

noncomputable def F60.KJ6 (call : CT) (lf ro : Nat) : COut → Out := blockK 0 (seqK Tryd.prog call lf ro (sub (codeOf Tryd.f60) [true, true]) (endK Tryd.prog Tryd.f60))

noncomputable def F60.CJ4 (call : CT) (lf ro : Nat) : COut → Out := blockK 0 (seqH Tryd.prog call ro (F60.Ht call lf ro) (F60.Ut call lf ro) (sub (codeOf Tryd.f60) [true, true]) (endK Tryd.prog Tryd.f60))

noncomputable def F60.KJ4 (call : CT) (lf ro : Nat) : COut → Out := blockK 0 (seqK Tryd.prog call lf ro (sub (codeOf Tryd.f60) [true, true]) (endK Tryd.prog Tryd.f60))

noncomputable def F60.CJ2 (call : CT) (lf ro : Nat) : COut → Out := blockK 0 (seqH Tryd.prog call ro (F60.Ht call lf ro) (F60.Ut call lf ro) (sub (codeOf Tryd.f60) [true, true]) (endK Tryd.prog Tryd.f60))

noncomputable def F60.KJ2 (call : CT) (lf ro : Nat) : COut → Out := blockK 0 (seqK Tryd.prog call lf ro (sub (codeOf Tryd.f60) [true, true]) (endK Tryd.prog Tryd.f60))

theorem F60.RJ8 (call : CT) (lf ro : Nat) (f : Nat → Option Value) (n13 : Int) (n14 : Int) (b15 : Bool) (h16 : Heap) :
    execH Tryd.prog call ro (F60.Ht call lf ro) (F60.Ut call lf ro) (sub (codeOf Tryd.f60) [true, false, false, true, true, true, true, true, true, true]) (EF 64 (updF (updF (updF f 0 (some (.int .i64 n13))) 1 (some (.int .i64 n14))) 34 (some (.bool b15)))) h16 (F60.CJ8 call lf ro) = F60.J8 call lf ro n13 n14 b15 h16 := by kernel_rfl

theorem F60.CKJ8 (call : CT) (lf ro : Nat) : KLe 64 (F60.CJ8 call lf ro) (F60.KJ8 call lf ro) :=
  (KLe.block (KLe.seq (H := (F60.Ht call lf ro)) (J := (F60.Ut call lf ro)) (KLe.refl _) (hd_free rfl)))

theorem F60.BJ8 (call : CT) (lf ro : Nat) : ∀ e h, Shaped 64 e → LeO (F60.PJ8 (F60.J8 call lf ro) e h) (execK Tryd.prog call lf ro (sub (codeOf Tryd.f60) [true, false, false, true, true, true, true, true, true, true]) e h (F60.KJ8 call lf ro)) := by
    rintro e h ⟨f, rfl⟩
    unfold F60.PJ8
    refine getK_le fun w0 g0 => ?_
    rw [EF_get (by decide)] at g0
    refine intK_le fun n26 z38 => ?_
    subst z38
    refine getK_le fun w1 g1 => ?_
    rw [EF_get (by decide)] at g1
    refine intK_le fun n27 z39 => ?_
    subst z39
    refine getK_le fun w34 g34 => ?_
    rw [EF_get (by decide)] at g34
    refine boolK_le fun b28 z40 => ?_
    subst z40
    have hr := F60.RJ8 call lf ro f n26 n27 b28 h
    rw [updF_same g0, updF_same g1, updF_same g34] at hr
    exact cut_le (H := (F60.Ht call lf ro)) (J := (F60.Ut call lf ro)) (F60.CKJ8 call lf ro) (hd_free rfl) hr

theorem F60.RJ6 (call : CT) (lf ro : Nat) (f : Nat → Option Value) (n9 : Int) (n10 : Int) (b11 : Bool) (h12 : Heap) :
    execH Tryd.prog call ro (F60.Ht call lf ro) (F60.Ut call lf ro) (sub (codeOf Tryd.f60) [true, false, false, true, true, true, true, true]) (EF 64 (updF (updF (updF f 0 (some (.int .i64 n9))) 1 (some (.int .i64 n10))) 27 (some (.bool b11)))) h12 (F60.CJ6 call lf ro) = F60.J6 call lf ro n9 n10 b11 h12 := by kernel_rfl

theorem F60.CKJ6 (call : CT) (lf ro : Nat) : KLe 64 (F60.CJ6 call lf ro) (F60.KJ6 call lf ro) :=
  (KLe.block (KLe.seq (H := (F60.Ht call lf ro)) (J := (F60.Ut call lf ro)) (KLe.refl _) (hd_free rfl)))

theorem F60.BJ6 (call : CT) (lf ro : Nat) : ∀ e h, Shaped 64 e → LeO (F60.PJ6 (F60.J6 call lf ro) e h) (execK Tryd.prog call lf ro (sub (codeOf Tryd.f60) [true, false, false, true, true, true, true, true]) e h (F60.KJ6 call lf ro)) := by
    rintro e h ⟨f, rfl⟩
    unfold F60.PJ6
    refine getK_le fun w0 g0 => ?_
    rw [EF_get (by decide)] at g0
    refine intK_le fun n29 z44 => ?_
    subst z44
    refine getK_le fun w1 g1 => ?_
    rw [EF_get (by decide)] at g1
    refine intK_le fun n30 z45 => ?_
    subst z45
    refine getK_le fun w27 g27 => ?_
    rw [EF_get (by decide)] at g27
    refine boolK_le fun b31 z46 => ?_
    subst z46
    have hr := F60.RJ6 call lf ro f n29 n30 b31 h
    rw [updF_same g0, updF_same g1, updF_same g27] at hr
    exact cut_le (H := (F60.Ht call lf ro)) (J := (F60.Ut call lf ro)) (F60.CKJ6 call lf ro) ⟨(hd_free rfl), ⟨(hd_free rfl), (fun e h hs => F60.BJ8 call lf ro  e h hs)⟩⟩ hr

theorem F60.RJ4 (call : CT) (lf ro : Nat) (f : Nat → Option Value) (n5 : Int) (n6 : Int) (b7 : Bool) (h8 : Heap) :
    execH Tryd.prog call ro (F60.Ht call lf ro) (F60.Ut call lf ro) (sub (codeOf Tryd.f60) [true, false, false, true, true, true]) (EF 64 (updF (updF (updF f 0 (some (.int .i64 n5))) 1 (some (.int .i64 n6))) 20 (some (.bool b7)))) h8 (F60.CJ4 call lf ro) = F60.J4 call lf ro n5 n6 b7 h8 := by kernel_rfl

theorem F60.CKJ4 (call : CT) (lf ro : Nat) : KLe 64 (F60.CJ4 call lf ro) (F60.KJ4 call lf ro) :=
  (KLe.block (KLe.seq (H := (F60.Ht call lf ro)) (J := (F60.Ut call lf ro)) (KLe.refl _) (hd_free rfl)))

theorem F60.BJ4 (call : CT) (lf ro : Nat) : ∀ e h, Shaped 64 e → LeO (F60.PJ4 (F60.J4 call lf ro) e h) (execK Tryd.prog call lf ro (sub (codeOf Tryd.f60) [true, false, false, true, true, true]) e h (F60.KJ4 call lf ro)) := by
    rintro e h ⟨f, rfl⟩
    unfold F60.PJ4
    refine getK_le fun w0 g0 => ?_
    rw [EF_get (by decide)] at g0
    refine intK_le fun n32 z50 => ?_
    subst z50
    refine getK_le fun w1 g1 => ?_
    rw [EF_get (by decide)] at g1
    refine intK_le fun n33 z51 => ?_
    subst z51
    refine getK_le fun w20 g20 => ?_
    rw [EF_get (by decide)] at g20
    refine boolK_le fun b34 z52 => ?_
    subst z52
    have hr := F60.RJ4 call lf ro f n32 n33 b34 h
    rw [updF_same g0, updF_same g1, updF_same g20] at hr
    exact cut_le (H := (F60.Ht call lf ro)) (J := (F60.Ut call lf ro)) (F60.CKJ4 call lf ro) ⟨(hd_free rfl), ⟨(hd_free rfl), (fun e h hs => F60.BJ6 call lf ro  e h hs)⟩⟩ hr

theorem F60.RJ2 (call : CT) (lf ro : Nat) (f : Nat → Option Value) (n1 : Int) (n2 : Int) (b3 : Bool) (h4 : Heap) :
    execH Tryd.prog call ro (F60.Ht call lf ro) (F60.Ut call lf ro) (sub (codeOf Tryd.f60) [true, false, false, true]) (EF 64 (updF (updF (updF f 0 (some (.int .i64 n1))) 1 (some (.int .i64 n2))) 5 (some (.bool b3)))) h4 (F60.CJ2 call lf ro) = F60.J2 call lf ro n1 n2 b3 h4 := by kernel_rfl

theorem F60.CKJ2 (call : CT) (lf ro : Nat) : KLe 64 (F60.CJ2 call lf ro) (F60.KJ2 call lf ro) :=
  (KLe.block (KLe.seq (H := (F60.Ht call lf ro)) (J := (F60.Ut call lf ro)) (KLe.refl _) (hd_free rfl)))

theorem F60.BJ2 (call : CT) (lf ro : Nat) : ∀ e h, Shaped 64 e → LeO (F60.PJ2 (F60.J2 call lf ro) e h) (execK Tryd.prog call lf ro (sub (codeOf Tryd.f60) [true, false, false, true]) e h (F60.KJ2 call lf ro)) := by
    rintro e h ⟨f, rfl⟩
    unfold F60.PJ2
    refine getK_le fun w0 g0 => ?_
    rw [EF_get (by decide)] at g0
    refine intK_le fun n35 z56 => ?_
    subst z56
    refine getK_le fun w1 g1 => ?_
    rw [EF_get (by decide)] at g1
    refine intK_le fun n36 z57 => ?_
    subst z57
    refine getK_le fun w5 g5 => ?_
    rw [EF_get (by decide)] at g5
    refine boolK_le fun b37 z58 => ?_
    subst z58
    have hr := F60.RJ2 call lf ro f n35 n36 b37 h
    rw [updF_same g0, updF_same g1, updF_same g5] at hr
    exact cut_le (H := (F60.Ht call lf ro)) (J := (F60.Ut call lf ro)) (F60.CKJ2 call lf ro) ⟨(hd_free rfl), ⟨(hd_free rfl), (fun e h hs => F60.BJ4 call lf ro  e h hs)⟩⟩ hr

theorem F60.le (call : CT) (lf ro : Nat) (x0 : Int) (x1 : Int) (h : Heap) : LeO (F60.t call lf ro x0 x1 h) (bodyK Tryd.prog call lf ro Tryd.f60 [.int .i64 x0, .int .i64 x1] h) :=
  body_le (c := codeOf Tryd.f60) (H := F60.Ht call lf ro) (J := F60.Ut call lf ro) rfl (Nat.le_of_ble_eq_true rfl) ⟨(hd_free rfl), ⟨⟨(hd_free rfl), (fun e h hs => F60.BJ2 call lf ro  e h hs)⟩, (hd_free rfl)⟩⟩ (by kernel_rfl)

/-! ### barscan/barscanref27.shift: function 61 -/

noncomputable def F61.J2 (call : CT) (lf ro : Nat) (n1 : Int) (n2 : Int) (b3 : Bool) (h4 : Heap) : Out :=
  letJ ((Out.ok (.int .i64 (-1)) h4)) fun j9 =>
  ifK b3 (Out.ok (.int .i64 3) h4) (letJ (fun (b12 : Bool) =>
  (ifK b12 (Out.ok (.int .i64 0) h4) (j9))) fun j13 =>
  ifK (n1 == 1) (ifK (n2 == 28) (j13 true) (ifK (n1 == 4) (j13 (n2 == 15)) (j13 false))) (ifK (n1 == 4) (j13 (n2 == 15)) (j13 false)))

noncomputable def F61.PJ2 (kb : Int → Int → Bool → Heap → Out) (e : Env) (h : Heap) : Out :=
  getK (e.get 0) fun w0 =>
  intK .i64 w0 fun n14 =>
  getK (e.get 1) fun w1 =>
  intK .i64 w1 fun n15 =>
  getK (e.get 5) fun w5 =>
  boolK w5 fun b16 =>
  kb n14 n15 b16 h

noncomputable def F61.t (call : CT) (lf ro : Nat) (x0 : Int) (x1 : Int) (h : Heap) : Out :=
  ifK (x0 != 3) (F61.J2 call lf ro x0 x1 (x1 == 0) h) (F61.J2 call lf ro x0 x1 false h)

noncomputable def F61.Ht (call : CT) (lf ro : Nat) (i : Nat) (e : Env) (h : Heap) : Out := .fail
noncomputable def F61.Ut (call : CT) (lf ro : Nat) (i : Nat) : Option (Env → Heap → Out) := ifJ (i == 2) (some (F61.PJ2 (F61.J2 call lf ro))) (none)

noncomputable def F61.CJ2 (call : CT) (lf ro : Nat) : COut → Out := blockK 0 (seqH Tryd.prog call ro (F61.Ht call lf ro) (F61.Ut call lf ro) (sub (codeOf Tryd.f61) [true, true]) (endK Tryd.prog Tryd.f61))

noncomputable def F61.KJ2 (call : CT) (lf ro : Nat) : COut → Out := blockK 0 (seqK Tryd.prog call lf ro (sub (codeOf Tryd.f61) [true, true]) (endK Tryd.prog Tryd.f61))

theorem F61.RJ2 (call : CT) (lf ro : Nat) (f : Nat → Option Value) (n1 : Int) (n2 : Int) (b3 : Bool) (h4 : Heap) :
    execH Tryd.prog call ro (F61.Ht call lf ro) (F61.Ut call lf ro) (sub (codeOf Tryd.f61) [true, false, false, true]) (EF 27 (updF (updF (updF f 0 (some (.int .i64 n1))) 1 (some (.int .i64 n2))) 5 (some (.bool b3)))) h4 (F61.CJ2 call lf ro) = F61.J2 call lf ro n1 n2 b3 h4 := by kernel_rfl

theorem F61.CKJ2 (call : CT) (lf ro : Nat) : KLe 27 (F61.CJ2 call lf ro) (F61.KJ2 call lf ro) :=
  (KLe.block (KLe.seq (H := (F61.Ht call lf ro)) (J := (F61.Ut call lf ro)) (KLe.refl _) (hd_free rfl)))

theorem F61.BJ2 (call : CT) (lf ro : Nat) : ∀ e h, Shaped 27 e → LeO (F61.PJ2 (F61.J2 call lf ro) e h) (execK Tryd.prog call lf ro (sub (codeOf Tryd.f61) [true, false, false, true]) e h (F61.KJ2 call lf ro)) := by
    rintro e h ⟨f, rfl⟩
    unfold F61.PJ2
    refine getK_le fun w0 g0 => ?_
    rw [EF_get (by decide)] at g0
    refine intK_le fun n14 z17 => ?_
    subst z17
    refine getK_le fun w1 g1 => ?_
    rw [EF_get (by decide)] at g1
    refine intK_le fun n15 z18 => ?_
    subst z18
    refine getK_le fun w5 g5 => ?_
    rw [EF_get (by decide)] at g5
    refine boolK_le fun b16 z19 => ?_
    subst z19
    have hr := F61.RJ2 call lf ro f n14 n15 b16 h
    rw [updF_same g0, updF_same g1, updF_same g5] at hr
    exact cut_le (H := (F61.Ht call lf ro)) (J := (F61.Ut call lf ro)) (F61.CKJ2 call lf ro) (hd_free rfl) hr

theorem F61.le (call : CT) (lf ro : Nat) (x0 : Int) (x1 : Int) (h : Heap) : LeO (F61.t call lf ro x0 x1 h) (bodyK Tryd.prog call lf ro Tryd.f61 [.int .i64 x0, .int .i64 x1] h) :=
  body_le (c := codeOf Tryd.f61) (H := F61.Ht call lf ro) (J := F61.Ut call lf ro) rfl (Nat.le_of_ble_eq_true rfl) ⟨(hd_free rfl), ⟨⟨(hd_free rfl), (fun e h hs => F61.BJ2 call lf ro  e h hs)⟩, (hd_free rfl)⟩⟩ (by kernel_rfl)

/-! ### slices.Index[[]bool,bool]: function 74 -/

noncomputable def F74.J3 (call : CT) (lf ro : Nat) (kb2 : (Option Addr) → Nat → Nat → Bool → Int → Int → Heap → Out) (a6 : Option Addr) (l6 : Nat) (c6 : Nat) (b7 : Bool) (n8 : Int) (n9 : Int) (h10 : Heap) : Out :=
  bindO (idxO Tryd.prog 24 (.slice a6 l6 c6) (.int .i64 n9) h10) fun v46 h47 =>
  bindO (loadO Tryd.prog 4 v46 h47) fun v48 h49 =>
  boolK v48 fun b50 =>
  ifK (b7 == b50) (Out.ok (.int .i64 n9) h49) (kb2 a6 l6 c6 b7 n8 (IntKind.i64.wrap (n9 + 1)) h49)

noncomputable def F74.PJ3 (kb : (Option Addr) → Nat → Nat → Bool → Int → Int → Heap → Out) (e : Env) (h : Heap) : Out :=
  getK (e.get 0) fun w0 =>
  sliceK w0 fun a51 l51 c51 =>
  getK (e.get 1) fun w1 =>
  boolK w1 fun b52 =>
  getK (e.get 7) fun w7 =>
  intK .i64 w7 fun n53 =>
  getK (e.get 8) fun w8 =>
  intK .i64 w8 fun n54 =>
  kb a51 l51 c51 b52 n53 n54 h

noncomputable def F74.L2 (call : CT) (lf ro : Nat) : Nat → (Option Addr) → Nat → Nat → Bool → Int → Int → Heap → Out
  | 0, _, _, _, _, _, _, _ => .fail
  | n + 1, a1, l1, c1, b2, n3, n4, h5 =>
  ifK (decide (n4 < n3)) (F74.J3 call lf ro (F74.L2 call lf ro n) a1 l1 c1 b2 n3 n4 h5) (Out.ok (.int .i64 (-1)) h5)

noncomputable def F74.P2 (kb : (Option Addr) → Nat → Nat → Bool → Int → Int → Heap → Out) (e : Env) (h : Heap) : Out :=
  getK (e.get 0) fun w0 =>
  sliceK w0 fun a55 l55 c55 =>
  getK (e.get 1) fun w1 =>
  boolK w1 fun b56 =>
  getK (e.get 7) fun w7 =>
  intK .i64 w7 fun n57 =>
  getK (e.get 8) fun w8 =>
  intK .i64 w8 fun n58 =>
  kb a55 l55 c55 b56 n57 n58 h

noncomputable def F74.t (call : CT) (lf ro : Nat) (ax0 : Option Addr) (lx0 : Nat) (cx0 : Nat) (x1 : Bool) (h : Heap) : Out :=
  F74.L2 call lf ro lf ax0 lx0 cx0 x1 (lx0 : Int) 0 h

noncomputable def F74.Ht (call : CT) (lf ro : Nat) (i : Nat) (e : Env) (h : Heap) : Out := ifK (i == 2) (F74.P2 (F74.L2 call lf ro lf) e h) (.fail)
noncomputable def F74.Ut (call : CT) (lf ro : Nat) (i : Nat) : Option (Env → Heap → Out) := none

noncomputable def F74.H2 (call : CT) (lf ro : Nat) (kb2 : (Option Addr) → Nat → Nat → Bool → Int → Int → Heap → Out) (i : Nat) (e : Env) (h : Heap) : Out := ifK (i == 2) (F74.P2 (F74.L2 call lf ro lf) e h) (.fail)
noncomputable def F74.U2 (call : CT) (lf ro : Nat) (kb2 : (Option Addr) → Nat → Nat → Bool → Int → Int → Heap → Out) (i : Nat) : Option (Env → Heap → Out) := ifJ (i == 3) (some (F74.PJ3 (F74.J3 call lf ro kb2))) (none)

noncomputable def F74.C2 (call : CT) (lf ro : Nat) : COut → Out := blockK 0 (seqH Tryd.prog call ro (F74.Ht call lf ro) (F74.Ut call lf ro) (sub (codeOf Tryd.f74) [true, true]) (endK Tryd.prog Tryd.f74))

noncomputable def F74.K2 (call : CT) (lf ro : Nat) : COut → Out := blockK 0 (seqK Tryd.prog call lf ro (sub (codeOf Tryd.f74) [true, true]) (endK Tryd.prog Tryd.f74))

noncomputable def F74.CJ3 (call : CT) (lf ro : Nat) (kb2 : (Option Addr) → Nat → Nat → Bool → Int → Int → Heap → Out) : COut → Out := outK (F74.P2 kb2) (fun i e h => F74.C2 call lf ro (.exit i e h)) (fun e h => F74.C2 call lf ro (.ret e h))

noncomputable def F74.KJ3 (call : CT) (lf ro : Nat) (kb2 : (Option Addr) → Nat → Nat → Bool → Int → Int → Heap → Out) : COut → Out := outK (F74.P2 kb2) (fun i e h => F74.C2 call lf ro (.exit i e h)) (fun e h => F74.C2 call lf ro (.ret e h))

theorem F74.RJ3 (call : CT) (lf ro : Nat) (kb2 : (Option Addr) → Nat → Nat → Bool → Int → Int → Heap → Out) (f : Nat → Option Value) (a6 : Option Addr) (l6 : Nat) (c6 : Nat) (b7 : Bool) (n8 : Int) (n9 : Int) (h10 : Heap) :
    execH Tryd.prog call ro (F74.H2 call lf ro kb2) (F74.U2 call lf ro kb2) (sub (codeOf Tryd.f74) [true, false, true, false, false, true, true]) (EF 19 (updF (updF (updF (updF f 0 (some (.slice a6 l6 c6))) 1 (some (.bool b7))) 7 (some (.int .i64 n8))) 8 (some (.int .i64 n9)))) h10 (F74.CJ3 call lf ro kb2) = F74.J3 call lf ro kb2 a6 l6 c6 b7 n8 n9 h10 := by kernel_rfl

theorem F74.CKJ3 (call : CT) (lf ro : Nat) (kb2 : (Option Addr) → Nat → Nat → Bool → Int → Int → Heap → Out) : KLe 19 (F74.CJ3 call lf ro kb2) (F74.KJ3 call lf ro kb2) :=
  (KLe.refl _)

theorem F74.BJ3 (call : CT) (lf ro : Nat) (kb2 : (Option Addr) → Nat → Nat → Bool → Int → Int → Heap → Out) : ∀ e h, Shaped 19 e → LeO (F74.PJ3 (F74.J3 call lf ro kb2) e h) (execK Tryd.prog call lf ro (sub (codeOf Tryd.f74) [true, false, true, false, false, true, true]) e h (F74.KJ3 call lf ro kb2)) := by
    rintro e h ⟨f, rfl⟩
    unfold F74.PJ3
    refine getK_le fun w0 g0 => ?_
    rw [EF_get (by decide)] at g0
    refine sliceK_le fun a51 l51 c51 z59 => ?_
    subst z59
    refine getK_le fun w1 g1 => ?_
    rw [EF_get (by decide)] at g1
    refine boolK_le fun b52 z60 => ?_
    subst z60
    refine getK_le fun w7 g7 => ?_
    rw [EF_get (by decide)] at g7
    refine intK_le fun n53 z61 => ?_
    subst z61
    refine getK_le fun w8 g8 => ?_
    rw [EF_get (by decide)] at g8
    refine intK_le fun n54 z62 => ?_
    subst z62
    have hr := F74.RJ3 call lf ro kb2 f a51 l51 c51 b52 n53 n54 h
    rw [updF_same g0, updF_same g1, updF_same g7, updF_same g8] at hr
    exact cut_le (H := (F74.H2 call lf ro kb2)) (J := (F74.U2 call lf ro kb2)) (F74.CKJ3 call lf ro kb2) (hd_free rfl) hr

theorem F74.R2 (call : CT) (lf ro : Nat) (n : Nat) (f : Nat → Option Value) (a1 : Option Addr) (l1 : Nat) (c1 : Nat) (b2 : Bool) (n3 : Int) (n4 : Int) (h5 : Heap) :
    execH Tryd.prog call ro (F74.H2 call lf ro (F74.L2 call lf ro n)) (F74.U2 call lf ro (F74.L2 call lf ro n)) (sub (codeOf Tryd.f74) [true, false, true, false, false]) (EF 19 (updF (updF (updF (updF f 0 (some (.slice a1 l1 c1))) 1 (some (.bool b2))) 7 (some (.int .i64 n3))) 8 (some (.int .i64 n4)))) h5 (outK (F74.P2 (F74.L2 call lf ro n)) (fun i e h => F74.C2 call lf ro (.exit i e h)) (fun e h => F74.C2 call lf ro (.ret e h))) = F74.L2 call lf ro (n + 1) a1 l1 c1 b2 n3 n4 h5 := by kernel_rfl

theorem F74.CK2 (call : CT) (lf ro : Nat) : KLe 19 (F74.C2 call lf ro) (F74.K2 call lf ro) :=
  (KLe.block (KLe.seq (H := (F74.Ht call lf ro)) (J := (F74.Ut call lf ro)) (KLe.refl _) (hd_free rfl)))

theorem F74.B2 (call : CT) (lf ro : Nat) : ∀ n e h, Shaped 19 e → LeO (F74.P2 (F74.L2 call lf ro n) e h) (loopK (execK Tryd.prog call lf ro (sub (codeOf Tryd.f74) [true, false, true, false, false])) n e h (F74.K2 call lf ro)) := by
  refine loop_le (fun e h k k' hs hk => execK_mono _ e h k k' hs hk) (kb := fun n => F74.P2 (F74.L2 call lf ro n)) (kx := fun i e h => F74.C2 call lf ro (.exit i e h)) (kr := fun e h => F74.C2 call lf ro (.ret e h)) ?_ ?_ (fun i e h hs => (F74.CK2 call lf ro).exit i e h hs) (fun e h hs => (F74.CK2 call lf ro).ret e h hs)
  · rintro e h ⟨f, rfl⟩
    unfold F74.P2
    refine getK_le fun w0 g0 => ?_
    rw [EF_get (by decide)] at g0
    refine sliceK_le fun a55 l55 c55 z67 => ?_
    subst z67
    refine getK_le fun w1 g1 => ?_
    rw [EF_get (by decide)] at g1
    refine boolK_le fun b56 z68 => ?_
    subst z68
    refine getK_le fun w7 g7 => ?_
    rw [EF_get (by decide)] at g7
    refine intK_le fun n57 z69 => ?_
    subst z69
    refine getK_le fun w8 g8 => ?_
    rw [EF_get (by decide)] at g8
    refine intK_le fun n58 z70 => ?_
    subst z70
    exact LeO.refl _
  · rintro n e h ⟨f, rfl⟩
    unfold F74.P2
    refine getK_le fun w0 g0 => ?_
    rw [EF_get (by decide)] at g0
    refine sliceK_le fun a55 l55 c55 z71 => ?_
    subst z71
    refine getK_le fun w1 g1 => ?_
    rw [EF_get (by decide)] at g1
    refine boolK_le fun b56 z72 => ?_
    subst z72
    refine getK_le fun w7 g7 => ?_
    rw [EF_get (by decide)] at g7
    refine intK_le fun n57 z73 => ?_
    subst z73
    refine getK_le fun w8 g8 => ?_
    rw [EF_get (by decide)] at g8
    refine intK_le fun n58 z74 => ?_
    subst z74
    have hr := F74.R2 call lf ro n f a55 l55 c55 b56 n57 n58 h
    rw [updF_same g0, updF_same g1, updF_same g7, updF_same g8] at hr
    exact round_le (H := (F74.H2 call lf ro (F74.L2 call lf ro n))) (J := (F74.U2 call lf ro (F74.L2 call lf ro n))) ⟨(hd_free rfl), ⟨(hd_free rfl), (fun e h hs => F74.BJ3 call lf ro (F74.L2 call lf ro n) e h hs)⟩⟩ hr

theorem F74.le (call : CT) (lf ro : Nat) (ax0 : Option Addr) (lx0 : Nat) (cx0 : Nat) (x1 : Bool) (h : Heap) : LeO (F74.t call lf ro ax0 lx0 cx0 x1 h) (bodyK Tryd.prog call lf ro Tryd.f74 [.slice ax0 lx0 cx0, .bool x1] h) :=
  body_le (c := codeOf Tryd.f74) (H := F74.Ht call lf ro) (J := F74.Ut call lf ro) rfl (Nat.le_of_ble_eq_true rfl) ⟨(hd_free rfl), ⟨⟨(hd_free rfl), (fun e h hs => F74.B2 call lf ro  lf e h hs)⟩, (hd_free rfl)⟩⟩ (by kernel_rfl)

/-! ### slices.Contains[[]bool,bool]: function 62 -/

noncomputable def F62.t (call : CT) (lf ro : Nat) (ax0 : Option Addr) (lx0 : Nat) (cx0 : Nat) (x1 : Bool) (h : Heap) : Out :=
  bindO (call ro 74 [.slice ax0 lx0 cx0, .bool x1] h) fun v4 h5 =>
  intK .i64 v4 fun n6 =>
  Out.ok (.bool (decide (n6 ≥ 0))) h5

noncomputable def F62.Ht (call : CT) (lf ro : Nat) (i : Nat) (e : Env) (h : Heap) : Out := .fail
noncomputable def F62.Ut (call : CT) (lf ro : Nat) (i : Nat) : Option (Env → Heap → Out) := none

theorem F62.le (call : CT) (lf ro : Nat) (ax0 : Option Addr) (lx0 : Nat) (cx0 : Nat) (x1 : Bool) (h : Heap) : LeO (F62.t call lf ro ax0 lx0 cx0 x1 h) (bodyK Tryd.prog call lf ro Tryd.f62 [.slice ax0 lx0 cx0, .bool x1] h) :=
  body_le (c := codeOf Tryd.f62) (H := F62.Ht call lf ro) (J := F62.Ut call lf ro) rfl (Nat.le_of_ble_eq_true rfl) (hd_free rfl) (by kernel_rfl)

/-! ### (*barscan/aztext.decoder).ended: function 40 -/

noncomputable def F40.t (call : CT) (lf ro : Nat) (px0 : Nat) (ox0 : Nat) (h : Heap) : Out :=
  letJ (fun (b19 : Bool) (h20 : Heap) =>
  (Out.ok (.bool b19) h20)) fun j21 =>
  bindN (loadO Tryd.prog 24 (.pointer (some ⟨px0, ox0 + 0, none⟩)) h) fun v22 h23 =>
  sliceK v22 fun a24 l24 c24 =>
  bindN (loadO Tryd.prog 3 (.pointer (some ⟨px0, ox0 + 1, none⟩)) h23) fun v25 h26 =>
  intK .i64 v25 fun n27 =>
  ifK (decide (IntKind.i64.wrap ((l24 : Int) - n27) < 12)) (bindN (loadO Tryd.prog 24 (.pointer (some ⟨px0, ox0 + 0, none⟩)) h26) fun v28 h29 =>
  sliceK v28 fun a30 l30 c30 =>
  bindN (loadO Tryd.prog 3 (.pointer (some ⟨px0, ox0 + 1, none⟩)) h29) fun v31 h32 =>
  intK .i64 v31 fun n33 =>
  bindO (sliceO Tryd.prog 24 (.slice a30 l30 c30) (some (.int .i64 n33)) none h32) fun v34 h35 =>
  sliceK v34 fun a36 l36 c36 =>
  bindO (call ro 62 [.slice a36 l36 c36, .bool false] h35) fun v37 h38 =>
  boolK v37 fun b39 =>
  j21 (!b39) h38) (j21 false h26)

noncomputable def F40.Ht (call : CT) (lf ro : Nat) (i : Nat) (e : Env) (h : Heap) : Out := .fail
noncomputable def F40.Ut (call : CT) (lf ro : Nat) (i : Nat) : Option (Env → Heap → Out) := none

theorem F40.le (call : CT) (lf ro : Nat) (px0 : Nat) (ox0 : Nat) (h : Heap) : LeO (F40.t call lf ro px0 ox0 h) (bodyK Tryd.prog call lf ro Tryd.f40 [.pointer (some ⟨px0, ox0, none⟩)] h) :=
  body_le (c := codeOf Tryd.f40) (H := F40.Ht call lf ro) (J := F40.Ut call lf ro) rfl (Nat.le_of_ble_eq_true rfl) (hd_free rfl) (by kernel_rfl)

/-! ### (*barscan/aztext.decoder).take: function 63 -/

noncomputable def F63.J6 (call : CT) (lf ro : Nat) (kb5 : Nat → Nat → Int → Int → (Option Addr) → Nat → Nat → Int → Int → Heap → Out) (p47 : Nat) (o47 : Nat) (n48 : Int) (n49 : Int) (a50 : Option Addr) (l50 : Nat) (c50 : Nat) (n51 : Int) (n52 : Int) (h53 : Heap) : Out :=
  letJ (fun (n87 : Int) (h88 : Heap) =>
  (kb5 p47 o47 n48 n87 a50 l50 c50 n51 (IntKind.i64.wrap (n52 + 1)) h88)) fun j89 =>
  bindO (idxO Tryd.prog 24 (.slice a50 l50 c50) (.int .i64 n52) h53) fun v95 h96 =>
  bindO (loadO Tryd.prog 4 v95 h96) fun v97 h98 =>
  boolK v97 fun b99 =>
  ifK b99 (j89 (IntKind.i64.wrap ((IntKind.i64.wrap (n49 * 2)) + 1)) h98) (j89 (IntKind.i64.wrap (n49 * 2)) h98)

noncomputable def F63.PJ6 (kb : Nat → Nat → Int → Int → (Option Addr) → Nat → Nat → Int → Int → Heap → Out) (e : Env) (h : Heap) : Out :=
  getK (e.get 0) fun w0 =>
  ptrK w0 fun p100 o100 =>
  getK (e.get 1) fun w1 =>
  intK .i64 w1 fun n101 =>
  getK (e.get 6) fun w6 =>
  intK .i64 w6 fun n102 =>
  getK (e.get 35) fun w35 =>
  sliceK w35 fun a103 l103 c103 =>
  getK (e.get 36) fun w36 =>
  intK .i64 w36 fun n104 =>
  getK (e.get 37) fun w37 =>
  intK .i64 w37 fun n105 =>
  kb p100 o100 n101 n102 a103 l103 c103 n104 n105 h

noncomputable def F63.L5 (call : CT) (lf ro : Nat) : Nat → Nat → Nat → Int → Int → (Option Addr) → Nat → Nat → Int → Int → Heap → Out
  | 0, _, _, _, _, _, _, _, _, _, _ => .fail
  | n + 1, p40, o40, n41, n42, a43, l43, c43, n44, n45, h46 =>
  ifK (decide (n45 < n44)) (F63.J6 call lf ro (F63.L5 call lf ro n) p40 o40 n41 n42 a43 l43 c43 n44 n45 h46) (bindO (loadO Tryd.prog 3 (.pointer (some ⟨p40, o40 + 1, none⟩)) h46) fun v111 h112 =>
  intK .i64 v111 fun n113 =>
  bindO (storeO Tryd.prog ro 3 (.pointer (some ⟨p40, o40 + 1, none⟩)) (.int .i64 (IntKind.i64.wrap (n113 + n41))) h112) fun v114 h115 =>
  Out.ok (.tuple #[.int .i64 n42, .bool true]) h115)

noncomputable def F63.P5 (kb : Nat → Nat → Int → Int → (Option Addr) → Nat → Nat → Int → Int → Heap → Out) (e : Env) (h : Heap) : Out :=
  getK (e.get 0) fun w0 =>
  ptrK w0 fun p116 o116 =>
  getK (e.get 1) fun w1 =>
  intK .i64 w1 fun n117 =>
  getK (e.get 6) fun w6 =>
  intK .i64 w6 fun n118 =>
  getK (e.get 35) fun w35 =>
  sliceK w35 fun a119 l119 c119 =>
  getK (e.get 36) fun w36 =>
  intK .i64 w36 fun n120 =>
  getK (e.get 37) fun w37 =>
  intK .i64 w37 fun n121 =>
  kb p116 o116 n117 n118 a119 l119 c119 n120 n121 h

noncomputable def F63.J3 (call : CT) (lf ro : Nat) (p13 : Nat) (o13 : Nat) (n14 : Int) (h15 : Heap) : Out :=
  bindN (loadO Tryd.prog 24 (.pointer (some ⟨p13, o13 + 0, none⟩)) h15) fun v28 h29 =>
  sliceK v28 fun a30 l30 c30 =>
  bindN (loadO Tryd.prog 3 (.pointer (some ⟨p13, o13 + 1, none⟩)) h29) fun v31 h32 =>
  intK .i64 v31 fun n33 =>
  bindN (loadO Tryd.prog 3 (.pointer (some ⟨p13, o13 + 1, none⟩)) h32) fun v34 h35 =>
  intK .i64 v34 fun n36 =>
  bindN (sliceO Tryd.prog 24 (.slice a30 l30 c30) (some (.int .i64 n33)) (some (.int .i64 (IntKind.i64.wrap (n36 + n14)))) h35) fun v37 h38 =>
  sliceK v37 fun a39 l39 c39 =>
  F63.L5 call lf ro lf p13 o13 n14 0 a39 l39 c39 (l39 : Int) 0 h38

noncomputable def F63.PJ3 (kb : Nat → Nat → Int → Heap → Out) (e : Env) (h : Heap) : Out :=
  getK (e.get 0) fun w0 =>
  ptrK w0 fun p122 o122 =>
  getK (e.get 1) fun w1 =>
  intK .i64 w1 fun n123 =>
  kb p122 o122 n123 h

noncomputable def F63.t (call : CT) (lf ro : Nat) (px0 : Nat) (ox0 : Nat) (x1 : Int) (h : Heap) : Out :=
  bindN (loadO Tryd.prog 24 (.pointer (some ⟨px0, ox0 + 0, none⟩)) h) fun v7 h8 =>
  sliceK v7 fun a9 l9 c9 =>
  bindN (loadO Tryd.prog 3 (.pointer (some ⟨px0, ox0 + 1, none⟩)) h8) fun v10 h11 =>
  intK .i64 v10 fun n12 =>
  ifK (decide (IntKind.i64.wrap ((l9 : Int) - n12) < x1)) (Out.ok (.tuple #[.int .i64 0, .bool false]) h11) (F63.J3 call lf ro px0 ox0 x1 h11)

noncomputable def F63.Ht (call : CT) (lf ro : Nat) (i : Nat) (e : Env) (h : Heap) : Out := ifK (i == 5) (F63.P5 (F63.L5 call lf ro lf) e h) (.fail)
noncomputable def F63.Ut (call : CT) (lf ro : Nat) (i : Nat) : Option (Env → Heap → Out) := ifJ (i == 3) (some (F63.PJ3 (F63.J3 call lf ro))) (none)

noncomputable def F63.H5 (call : CT) (lf ro : Nat) (kb5 : Nat → Nat → Int → Int → (Option Addr) → Nat → Nat → Int → Int → Heap → Out) (i : Nat) (e : Env) (h : Heap) : Out := ifK (i == 5) (F63.P5 (F63.L5 call lf ro lf) e h) (.fail)
noncomputable def F63.U5 (call : CT) (lf ro : Nat) (kb5 : Nat → Nat → Int → Int → (Option Addr) → Nat → Nat → Int → Int → Heap → Out) (i : Nat) : Option (Env → Heap → Out) := ifJ (i == 6) (some (F63.PJ6 (F63.J6 call lf ro kb5))) (ifJ (i == 3) (some (F63.PJ3 (F63.J3 call lf ro))) (none))

noncomputable def F63.C5 (call : CT) (lf ro : Nat) : COut → Out := blockK 0 (seqH Tryd.prog call ro (F63.Ht call lf ro) (F63.Ut call lf ro) (sub (codeOf Tryd.f63) [true, true, true, true]) (endK Tryd.prog Tryd.f63))

noncomputable def F63.K5 (call : CT) (lf ro : Nat) : COut → Out := blockK 0 (seqK Tryd.prog call lf ro (sub (codeOf Tryd.f63) [true, true, true, true]) (endK Tryd.prog Tryd.f63))

noncomputable def F63.CJ3 (call : CT) (lf ro : Nat) : COut → Out := endK Tryd.prog Tryd.f63

noncomputable def F63.KJ3 (call : CT) (lf ro : Nat) : COut → Out := endK Tryd.prog Tryd.f63

noncomputable def F63.CJ6 (call : CT) (lf ro : Nat) (kb5 : Nat → Nat → Int → Int → (Option Addr) → Nat → Nat → Int → Int → Heap → Out) : COut → Out := outK (F63.P5 kb5) (fun i e h => F63.C5 call lf ro (.exit i e h)) (fun e h => F63.C5 call lf ro (.ret e h))

noncomputable def F63.KJ6 (call : CT) (lf ro : Nat) (kb5 : Nat → Nat → Int → Int → (Option Addr) → Nat → Nat → Int → Int → Heap → Out) : COut → Out := outK (F63.P5 kb5) (fun i e h => F63.C5 call lf ro (.exit i e h)) (fun e h => F63.C5 call lf ro (.ret e h))

theorem F63.RJ6 (call : CT) (lf ro : Nat) (kb5 : Nat → Nat → Int → Int → (Option Addr) → Nat → Nat → Int → Int → Heap → Out) (f : Nat → Option Value) (p47 : Nat) (o47 : Nat) (n48 : Int) (n49 : Int) (a50 : Option Addr) (l50 : Nat) (c50 : Nat) (n51 : Int) (n52 : Int) (h53 : Heap) :
    execH Tryd.prog call ro (F63.H5 call lf ro kb5) (F63.U5 call lf ro kb5) (sub (codeOf Tryd.f63) [true, true, true, false, true, false, false, true, true]) (EF 56 (updF (updF (updF (updF (updF (updF f 0 (some (.pointer (some ⟨p47, o47, none⟩)))) 1 (some (.int .i64 n48))) 6 (some (.int .i64 n49))) 35 (some (.slice a50 l50 c50))) 36 (some (.int .i64 n51))) 37 (some (.int .i64 n52)))) h53 (F63.CJ6 call lf ro kb5) = F63.J6 call lf ro kb5 p47 o47 n48 n49 a50 l50 c50 n51 n52 h53 := by kernel_rfl

theorem F63.CKJ6 (call : CT) (lf ro : Nat) (kb5 : Nat → Nat → Int → Int → (Option Addr) → Nat → Nat → Int → Int → Heap → Out) : KLe 56 (F63.CJ6 call lf ro kb5) (F63.KJ6 call lf ro kb5) :=
  (KLe.refl _)

theorem F63.BJ6 (call : CT) (lf ro : Nat) (kb5 : Nat → Nat → Int → Int → (Option Addr) → Nat → Nat → Int → Int → Heap → Out) : ∀ e h, Shaped 56 e → LeO (F63.PJ6 (F63.J6 call lf ro kb5) e h) (execK Tryd.prog call lf ro (sub (codeOf Tryd.f63) [true, true, true, false, true, false, false, true, true]) e h (F63.KJ6 call lf ro kb5)) := by
    rintro e h ⟨f, rfl⟩
    unfold F63.PJ6
    refine getK_le fun w0 g0 => ?_
    rw [EF_get (by decide)] at g0
    refine ptrK_le fun p100 o100 z124 => ?_
    subst z124
    refine getK_le fun w1 g1 => ?_
    rw [EF_get (by decide)] at g1
    refine intK_le fun n101 z125 => ?_
    subst z125
    refine getK_le fun w6 g6 => ?_
    rw [EF_get (by decide)] at g6
    refine intK_le fun n102 z126 => ?_
    subst z126
    refine getK_le fun w35 g35 => ?_
    rw [EF_get (by decide)] at g35
    refine sliceK_le fun a103 l103 c103 z127 => ?_
    subst z127
    refine getK_le fun w36 g36 => ?_
    rw [EF_get (by decide)] at g36
    refine intK_le fun n104 z128 => ?_
    subst z128
    refine getK_le fun w37 g37 => ?_
    rw [EF_get (by decide)] at g37
    refine intK_le fun n105 z129 => ?_
    subst z129
    have hr := F63.RJ6 call lf ro kb5 f p100 o100 n101 n102 a103 l103 c103 n104 n105 h
    rw [updF_same g0, updF_same g1, updF_same g6, updF_same g35, updF_same g36, updF_same g37] at hr
    exact cut_le (H := (F63.H5 call lf ro kb5)) (J := (F63.U5 call lf ro kb5)) (F63.CKJ6 call lf ro kb5) (hd_free rfl) hr

theorem F63.R5 (call : CT) (lf ro : Nat) (n : Nat) (f : Nat → Option Value) (p40 : Nat) (o40 : Nat) (n41 : Int) (n42 : Int) (a43 : Option Addr) (l43 : Nat) (c43 : Nat) (n44 : Int) (n45 : Int) (h46 : Heap) :
    execH Tryd.prog call ro (F63.H5 call lf ro (F63.L5 call lf ro n)) (F63.U5 call lf ro (F63.L5 call lf ro n)) (sub (codeOf Tryd.f63) [true, true, true, false, true, false, false]) (EF 56 (updF (updF (updF (updF (updF (updF f 0 (some (.pointer (some ⟨p40, o40, none⟩)))) 1 (some (.int .i64 n41))) 6 (some (.int .i64 n42))) 35 (some (.slice a43 l43 c43))) 36 (some (.int .i64 n44))) 37 (some (.int .i64 n45)))) h46 (outK (F63.P5 (F63.L5 call lf ro n)) (fun i e h => F63.C5 call lf ro (.exit i e h)) (fun e h => F63.C5 call lf ro (.ret e h))) = F63.L5 call lf ro (n + 1) p40 o40 n41 n42 a43 l43 c43 n44 n45 h46 := by kernel_rfl

theorem F63.CK5 (call : CT) (lf ro : Nat) : KLe 56 (F63.C5 call lf ro) (F63.K5 call lf ro) :=
  (KLe.block (KLe.seq (H := (F63.Ht call lf ro)) (J := (F63.Ut call lf ro)) (KLe.refl _) (hd_free rfl)))

theorem F63.B5 (call : CT) (lf ro : Nat) : ∀ n e h, Shaped 56 e → LeO (F63.P5 (F63.L5 call lf ro n) e h) (loopK (execK Tryd.prog call lf ro (sub (codeOf Tryd.f63) [true, true, true, false, true, false, false])) n e h (F63.K5 call lf ro)) := by
  refine loop_le (fun e h k k' hs hk => execK_mono _ e h k k' hs hk) (kb := fun n => F63.P5 (F63.L5 call lf ro n)) (kx := fun i e h => F63.C5 call lf ro (.exit i e h)) (kr := fun e h => F63.C5 call lf ro (.ret e h)) ?_ ?_ (fun i e h hs => (F63.CK5 call lf ro).exit i e h hs) (fun e h hs => (F63.CK5 call lf ro).ret e h hs)
  · rintro e h ⟨f, rfl⟩
    unfold F63.P5
    refine getK_le fun w0 g0 => ?_
    rw [EF_get (by decide)] at g0
    refine ptrK_le fun p116 o116 z136 => ?_
    subst z136
    refine getK_le fun w1 g1 => ?_
    rw [EF_get (by decide)] at g1
    refine intK_le fun n117 z137 => ?_
    subst z137
    refine getK_le fun w6 g6 => ?_
    rw [EF_get (by decide)] at g6
    refine intK_le fun n118 z138 => ?_
    subst z138
    refine getK_le fun w35 g35 => ?_
    rw [EF_get (by decide)] at g35
    refine sliceK_le fun a119 l119 c119 z139 => ?_
    subst z139
    refine getK_le fun w36 g36 => ?_
    rw [EF_get (by decide)] at g36
    refine intK_le fun n120 z140 => ?_
    subst z140
    refine getK_le fun w37 g37 => ?_
    rw [EF_get (by decide)] at g37
    refine intK_le fun n121 z141 => ?_
    subst z141
    exact LeO.refl _
  · rintro n e h ⟨f, rfl⟩
    unfold F63.P5
    refine getK_le fun w0 g0 => ?_
    rw [EF_get (by decide)] at g0
    refine ptrK_le fun p116 o116 z142 => ?_
    subst z142
    refine getK_le fun w1 g1 => ?_
    rw [EF_get (by decide)] at g1
    refine intK_le fun n117 z143 => ?_
    subst z143
    refine getK_le fun w6 g6 => ?_
    rw [EF_get (by decide)] at g6
    refine intK_le fun n118 z144 => ?_
    subst z144
    refine getK_le fun w35 g35 => ?_
    rw [EF_get (by decide)] at g35
    refine sliceK_le fun a119 l119 c119 z145 => ?_
    subst z145
    refine getK_le fun w36 g36 => ?_
    rw [EF_get (by decide)] at g36
    refine intK_le fun n120 z146 => ?_
    subst z146
    refine getK_le fun w37 g37 => ?_
    rw [EF_get (by decide)] at g37
    refine intK_le fun n121 z147 => ?_
    subst z147
    have hr := F63.R5 call lf ro n f p116 o116 n117 n118 a119 l119 c119 n120 n121 h
    rw [updF_same g0, updF_same g1, updF_same g6, updF_same g35, updF_same g36, updF_same g37] at hr
    exact round_le (H := (F63.H5 call lf ro (F63.L5 call lf ro n))) (J := (F63.U5 call lf ro (F63.L5 call lf ro n))) ⟨(hd_free rfl), ⟨(hd_free rfl), (fun e h hs => F63.BJ6 call lf ro (F63.L5 call lf ro n) e h hs)⟩⟩ hr

theorem F63.RJ3 (call : CT) (lf ro : Nat) (f : Nat → Option Value) (p13 : Nat) (o13 : Nat) (n14 : Int) (h15 : Heap) :
    execH Tryd.prog call ro (F63.Ht call lf ro) (F63.Ut call lf ro) (sub (codeOf Tryd.f63) [true, true]) (EF 56 (updF (updF f 0 (some (.pointer (some ⟨p13, o13, none⟩)))) 1 (some (.int .i64 n14)))) h15 (F63.CJ3 call lf ro) = F63.J3 call lf ro p13 o13 n14 h15 := by kernel_rfl

theorem F63.CKJ3 (call : CT) (lf ro : Nat) : KLe 56 (F63.CJ3 call lf ro) (F63.KJ3 call lf ro) :=
  (KLe.refl _)

theorem F63.BJ3 (call : CT) (lf ro : Nat) : ∀ e h, Shaped 56 e → LeO (F63.PJ3 (F63.J3 call lf ro) e h) (execK Tryd.prog call lf ro (sub (codeOf Tryd.f63) [true, true]) e h (F63.KJ3 call lf ro)) := by
    rintro e h ⟨f, rfl⟩
    unfold F63.PJ3
    refine getK_le fun w0 g0 => ?_
    rw [EF_get (by decide)] at g0
    refine ptrK_le fun p122 o122 z148 => ?_
    subst z148
    refine getK_le fun w1 g1 => ?_
    rw [EF_get (by decide)] at g1
    refine intK_le fun n123 z149 => ?_
    subst z149
    have hr := F63.RJ3 call lf ro f p122 o122 n123 h
    rw [updF_same g0, updF_same g1] at hr
    exact cut_le (H := (F63.Ht call lf ro)) (J := (F63.Ut call lf ro)) (F63.CKJ3 call lf ro) ⟨(hd_free rfl), ⟨⟨(hd_free rfl), (fun e h hs => F63.B5 call lf ro  lf e h hs)⟩, (hd_free rfl)⟩⟩ hr

theorem F63.le (call : CT) (lf ro : Nat) (px0 : Nat) (ox0 : Nat) (x1 : Int) (h : Heap) : LeO (F63.t call lf ro px0 ox0 x1 h) (bodyK Tryd.prog call lf ro Tryd.f63 [.pointer (some ⟨px0, ox0, none⟩), .int .i64 x1] h) :=
  body_le (c := codeOf Tryd.f63) (H := F63.Ht call lf ro) (J := F63.Ut call lf ro) rfl (Nat.le_of_ble_eq_true rfl) ⟨(hd_free rfl), ⟨(hd_free rfl), (fun e h hs => F63.BJ3 call lf ro  e h hs)⟩⟩ (by kernel_rfl)

/-! ### (*barscan/aztext.decoder).shifted: function 65 -/

noncomputable def F65.J4 (call : CT) (lf ro : Nat) (p19 : Nat) (o19 : Nat) (n20 : Int) (n21 : Int) (h22 : Heap) : Out :=
  bindO (call ro 64 [.int .i64 n20, .int .i64 n21] h22) fun v26 h27 =>
  strK v26 fun s28 =>
  ifK (s28.toList == (⟨#[]⟩ : ByteArray).toList) (Out.ok (.int .i64 22) h27) (bindO (loadO Tryd.prog 22 (.pointer (some ⟨p19, o19 + 3, none⟩)) h27) fun v37 h38 =>
  sliceK v37 fun a39 l39 c39 =>
  bindO (appO Tryd.prog ro 22 9 (.slice a39 l39 c39) (.string s28) h38) fun v40 h41 =>
  sliceK v40 fun a42 l42 c42 =>
  bindO (storeO Tryd.prog ro 22 (.pointer (some ⟨p19, o19 + 3, none⟩)) (.slice a42 l42 c42) h41) fun v43 h44 =>
  Out.ok (.int .i64 0) h44)

noncomputable def F65.PJ4 (kb : Nat → Nat → Int → Int → Heap → Out) (e : Env) (h : Heap) : Out :=
  getK (e.get 0) fun w0 =>
  ptrK w0 fun p45 o45 =>
  getK (e.get 1) fun w1 =>
  intK .i64 w1 fun n46 =>
  getK (e.get 5) fun w5 =>
  intK .i64 w5 fun n47 =>
  kb p45 o45 n46 n47 h

noncomputable def F65.t (call : CT) (lf ro : Nat) (px0 : Nat) (ox0 : Nat) (x1 : Int) (h : Heap) : Out :=
  bindO (call ro 63 [.pointer (some ⟨px0, ox0, none⟩), .int .i64 5] h) fun v10 h11 =>
  tupK v10 fun q12 =>
  consK q12 fun x13 q14 =>
  intK .i64 x13 fun n15 =>
  consK q14 fun x16 q17 =>
  boolK x16 fun b18 =>
  nilK q17 <|
  ifK (!b18) (Out.ok (.int .i64 10) h11) (F65.J4 call lf ro px0 ox0 x1 n15 h11)

noncomputable def F65.Ht (call : CT) (lf ro : Nat) (i : Nat) (e : Env) (h : Heap) : Out := .fail
noncomputable def F65.Ut (call : CT) (lf ro : Nat) (i : Nat) : Option (Env → Heap → Out) := ifJ (i == 4) (some (F65.PJ4 (F65.J4 call lf ro))) (none)

noncomputable def F65.CJ4 (call : CT) (lf ro : Nat) : COut → Out := endK Tryd.prog Tryd.f65

noncomputable def F65.KJ4 (call : CT) (lf ro : Nat) : COut → Out := endK Tryd.prog Tryd.f65

theorem F65.RJ4 (call : CT) (lf ro : Nat) (f : Nat → Option Value) (p19 : Nat) (o19 : Nat) (n20 : Int) (n21 : Int) (h22 : Heap) :
    execH Tryd.prog call ro (F65.Ht call lf ro) (F65.Ut call lf ro) (sub (codeOf Tryd.f65) [true, true, true]) (EF 29 (updF (updF (updF f 0 (some (.pointer (some ⟨p19, o19, none⟩)))) 1 (some (.int .i64 n20))) 5 (some (.int .i64 n21)))) h22 (F65.CJ4 call lf ro) = F65.J4 call lf ro p19 o19 n20 n21 h22 := by kernel_rfl

theorem F65.CKJ4 (call : CT) (lf ro : Nat) : KLe 29 (F65.CJ4 call lf ro) (F65.KJ4 call lf ro) :=
  (KLe.refl _)

theorem F65.BJ4 (call : CT) (lf ro : Nat) : ∀ e h, Shaped 29 e → LeO (F65.PJ4 (F65.J4 call lf ro) e h) (execK Tryd.prog call lf ro (sub (codeOf Tryd.f65) [true, true, true]) e h (F65.KJ4 call lf ro)) := by
    rintro e h ⟨f, rfl⟩
    unfold F65.PJ4
    refine getK_le fun w0 g0 => ?_
    rw [EF_get (by decide)] at g0
    refine ptrK_le fun p45 o45 z48 => ?_
    subst z48
    refine getK_le fun w1 g1 => ?_
    rw [EF_get (by decide)] at g1
    refine intK_le fun n46 z49 => ?_
    subst z49
    refine getK_le fun w5 g5 => ?_
    rw [EF_get (by decide)] at g5
    refine intK_le fun n47 z50 => ?_
    subst z50
    have hr := F65.RJ4 call lf ro f p45 o45 n46 n47 h
    rw [updF_same g0, updF_same g1, updF_same g5] at hr
    exact cut_le (H := (F65.Ht call lf ro)) (J := (F65.Ut call lf ro)) (F65.CKJ4 call lf ro) (hd_free rfl) hr

theorem F65.le (call : CT) (lf ro : Nat) (px0 : Nat) (ox0 : Nat) (x1 : Int) (h : Heap) : LeO (F65.t call lf ro px0 ox0 x1 h) (bodyK Tryd.prog call lf ro Tryd.f65 [.pointer (some ⟨px0, ox0, none⟩), .int .i64 x1] h) :=
  body_le (c := codeOf Tryd.f65) (H := F65.Ht call lf ro) (J := F65.Ut call lf ro) rfl (Nat.le_of_ble_eq_true rfl) ⟨(hd_free rfl), ⟨(hd_free rfl), ⟨(hd_free rfl), (fun e h hs => F65.BJ4 call lf ro  e h hs)⟩⟩⟩ (by kernel_rfl)

/-! ### (*barscan/aztext.decoder).bytes: function 66 -/

noncomputable def F66.J7 (call : CT) (lf ro : Nat) (kb5 : Nat → Nat → Int → Bool → Heap → Out) (p52 : Nat) (o52 : Nat) (n53 : Int) (h54 : Heap) : Out :=
  letJ (fun (b139 : Bool) (h140 : Heap) =>
  (kb5 p52 o52 (IntKind.i64.wrap (n53 - 1)) b139 h140)) fun j141 =>
  bindO (call ro 63 [.pointer (some ⟨p52, o52, none⟩), .int .i64 8] h54) fun v151 h152 =>
  tupK v151 fun q153 =>
  consK q153 fun x154 q155 =>
  intK .i64 x154 fun n156 =>
  consK q155 fun x157 q158 =>
  boolK x157 fun b159 =>
  nilK q158 <|
  ifK b159 (bindO (loadO Tryd.prog 22 (.pointer (some ⟨p52, o52 + 3, none⟩)) h152) fun v160 h161 =>
  sliceK v160 fun a162 l162 c162 =>
  pushJ h161 1 [.int .u8 (IntKind.u8.wrap n156)] fun h163 =>
  bindO (appO Tryd.prog ro 22 22 (.slice a162 l162 c162) (.slice (some ⟨h161.next, 0, none⟩) 1 1) h163) fun v164 h165 =>
  sliceK v164 fun a166 l166 c166 =>
  bindO (storeO Tryd.prog ro 22 (.pointer (some ⟨p52, o52 + 3, none⟩)) (.slice a166 l166 c166) h165) fun v167 h168 =>
  j141 b159 h168) (j141 b159 h152)

noncomputable def F66.PJ7 (kb : Nat → Nat → Int → Heap → Out) (e : Env) (h : Heap) : Out :=
  getK (e.get 0) fun w0 =>
  ptrK w0 fun p169 o169 =>
  getK (e.get 3) fun w3 =>
  intK .i64 w3 fun n170 =>
  kb p169 o169 n170 h

noncomputable def F66.L5 (call : CT) (lf ro : Nat) : Nat → Nat → Nat → Int → Bool → Heap → Out
  | 0, _, _, _, _, _ => .fail
  | n + 1, p46, o46, n47, b48, h49 =>
  letJ (fun (b171 : Bool) =>
  (ifK b171 (F66.J7 call lf ro (F66.L5 call lf ro n) p46 o46 n47 h49) (ifK (!b48) (Out.ok (.int .i64 10) h49) (Out.ok (.int .i64 0) h49)))) fun j172 =>
  ifK b48 (j172 (decide (n47 > 0))) (j172 false)

noncomputable def F66.P5 (kb : Nat → Nat → Int → Bool → Heap → Out) (e : Env) (h : Heap) : Out :=
  getK (e.get 0) fun w0 =>
  ptrK w0 fun p173 o173 =>
  getK (e.get 3) fun w3 =>
  intK .i64 w3 fun n174 =>
  getK (e.get 4) fun w4 =>
  boolK w4 fun b175 =>
  kb p173 o173 n174 b175 h

noncomputable def F66.J5 (call : CT) (lf ro : Nat) (p42 : Nat) (o42 : Nat) (n43 : Int) (b44 : Bool) (h45 : Heap) : Out :=
  F66.L5 call lf ro lf p42 o42 n43 b44 h45

noncomputable def F66.PJ5 (kb : Nat → Nat → Int → Bool → Heap → Out) (e : Env) (h : Heap) : Out :=
  getK (e.get 0) fun w0 =>
  ptrK w0 fun p176 o176 =>
  getK (e.get 3) fun w3 =>
  intK .i64 w3 fun n177 =>
  getK (e.get 4) fun w4 =>
  boolK w4 fun b178 =>
  kb p176 o176 n177 b178 h

noncomputable def F66.J3 (call : CT) (lf ro : Nat) (p19 : Nat) (o19 : Nat) (n20 : Int) (b21 : Bool) (b22 : Bool) (h23 : Heap) : Out :=
  ifK b22 (bindO (call ro 63 [.pointer (some ⟨p19, o19, none⟩), .int .i64 11] h23) fun v33 h34 =>
  tupK v33 fun q35 =>
  consK q35 fun x36 q37 =>
  intK .i64 x36 fun n38 =>
  consK q37 fun x39 q40 =>
  boolK x39 fun b41 =>
  nilK q40 <|
  F66.J5 call lf ro p19 o19 (IntKind.i64.wrap (n38 + 31)) b41 h34) (F66.J5 call lf ro p19 o19 n20 b21 h23)

noncomputable def F66.PJ3 (kb : Nat → Nat → Int → Bool → Bool → Heap → Out) (e : Env) (h : Heap) : Out :=
  getK (e.get 0) fun w0 =>
  ptrK w0 fun p179 o179 =>
  getK (e.get 3) fun w3 =>
  intK .i64 w3 fun n180 =>
  getK (e.get 4) fun w4 =>
  boolK w4 fun b181 =>
  getK (e.get 15) fun w15 =>
  boolK w15 fun b182 =>
  kb p179 o179 n180 b181 b182 h

noncomputable def F66.t (call : CT) (lf ro : Nat) (px0 : Nat) (ox0 : Nat) (h : Heap) : Out :=
  bindO (call ro 63 [.pointer (some ⟨px0, ox0, none⟩), .int .i64 5] h) fun v10 h11 =>
  tupK v10 fun q12 =>
  consK q12 fun x13 q14 =>
  intK .i64 x13 fun n15 =>
  consK q14 fun x16 q17 =>
  boolK x16 fun b18 =>
  nilK q17 <|
  ifK b18 (F66.J3 call lf ro px0 ox0 n15 b18 (n15 == 0) h11) (F66.J3 call lf ro px0 ox0 n15 b18 false h11)

noncomputable def F66.Ht (call : CT) (lf ro : Nat) (i : Nat) (e : Env) (h : Heap) : Out := ifK (i == 5) (F66.P5 (F66.L5 call lf ro lf) e h) (.fail)
noncomputable def F66.Ut (call : CT) (lf ro : Nat) (i : Nat) : Option (Env → Heap → Out) := ifJ (i == 5) (some (F66.PJ5 (F66.J5 call lf ro))) (ifJ (i == 3) (some (F66.PJ3 (F66.J3 call lf ro))) (none))

noncomputable def F66.H5 (call : CT) (lf ro : Nat) (kb5 : Nat → Nat → Int → Bool → Heap → Out) (i : Nat) (e : Env) (h : Heap) : Out := ifK (i == 5) (F66.P5 (F66.L5 call lf ro lf) e h) (.fail)
noncomputable def F66.U5 (call : CT) (lf ro : Nat) (kb5 : Nat → Nat → Int → Bool → Heap → Out) (i : Nat) : Option (Env → Heap → Out) := ifJ (i == 7) (some (F66.PJ7 (F66.J7 call lf ro kb5))) (ifJ (i == 5) (some (F66.PJ5 (F66.J5 call lf ro))) (ifJ (i == 3) (some (F66.PJ3 (F66.J3 call lf ro))) (none)))

noncomputable def F66.C5 (call : CT) (lf ro : Nat) : COut → Out := blockK 0 (seqH Tryd.prog call ro (F66.Ht call lf ro) (F66.Ut call lf ro) (sub (codeOf Tryd.f66) [true, true, true, true]) (endK Tryd.prog Tryd.f66))

noncomputable def F66.K5 (call : CT) (lf ro : Nat) : COut → Out := blockK 0 (seqK Tryd.prog call lf ro (sub (codeOf Tryd.f66) [true, true, true, true]) (endK Tryd.prog Tryd.f66))

noncomputable def F66.CJ5 (call : CT) (lf ro : Nat) : COut → Out := endK Tryd.prog Tryd.f66

noncomputable def F66.KJ5 (call : CT) (lf ro : Nat) : COut → Out := endK Tryd.prog Tryd.f66

noncomputable def F66.CJ3 (call : CT) (lf ro : Nat) : COut → Out := seqH Tryd.prog call ro (F66.Ht call lf ro) (F66.Ut call lf ro) (sub (codeOf Tryd.f66) [true, true, true]) (endK Tryd.prog Tryd.f66)

noncomputable def F66.KJ3 (call : CT) (lf ro : Nat) : COut → Out := seqK Tryd.prog call lf ro (sub (codeOf Tryd.f66) [true, true, true]) (endK Tryd.prog Tryd.f66)

noncomputable def F66.CJ7 (call : CT) (lf ro : Nat) (kb5 : Nat → Nat → Int → Bool → Heap → Out) : COut → Out := outK (F66.P5 kb5) (fun i e h => F66.C5 call lf ro (.exit i e h)) (fun e h => F66.C5 call lf ro (.ret e h))

noncomputable def F66.KJ7 (call : CT) (lf ro : Nat) (kb5 : Nat → Nat → Int → Bool → Heap → Out) : COut → Out := outK (F66.P5 kb5) (fun i e h => F66.C5 call lf ro (.exit i e h)) (fun e h => F66.C5 call lf ro (.ret e h))

theorem F66.RJ7 (call : CT) (lf ro : Nat) (kb5 : Nat → Nat → Int → Bool → Heap → Out) (f : Nat → Option Value) (p52 : Nat) (o52 : Nat) (n53 : Int) (h54 : Heap) :
    execH Tryd.prog call ro (F66.H5 call lf ro kb5) (F66.U5 call lf ro kb5) (sub (codeOf Tryd.f66) [true, true, true, false, false, false, true]) (EF 49 (updF (updF f 0 (some (.pointer (some ⟨p52, o52, none⟩)))) 3 (some (.int .i64 n53)))) h54 (F66.CJ7 call lf ro kb5) = F66.J7 call lf ro kb5 p52 o52 n53 h54 := by kernel_rfl

theorem F66.CKJ7 (call : CT) (lf ro : Nat) (kb5 : Nat → Nat → Int → Bool → Heap → Out) : KLe 49 (F66.CJ7 call lf ro kb5) (F66.KJ7 call lf ro kb5) :=
  (KLe.refl _)

theorem F66.BJ7 (call : CT) (lf ro : Nat) (kb5 : Nat → Nat → Int → Bool → Heap → Out) : ∀ e h, Shaped 49 e → LeO (F66.PJ7 (F66.J7 call lf ro kb5) e h) (execK Tryd.prog call lf ro (sub (codeOf Tryd.f66) [true, true, true, false, false, false, true]) e h (F66.KJ7 call lf ro kb5)) := by
    rintro e h ⟨f, rfl⟩
    unfold F66.PJ7
    refine getK_le fun w0 g0 => ?_
    rw [EF_get (by decide)] at g0
    refine ptrK_le fun p169 o169 z183 => ?_
    subst z183
    refine getK_le fun w3 g3 => ?_
    rw [EF_get (by decide)] at g3
    refine intK_le fun n170 z184 => ?_
    subst z184
    have hr := F66.RJ7 call lf ro kb5 f p169 o169 n170 h
    rw [updF_same g0, updF_same g3] at hr
    exact cut_le (H := (F66.H5 call lf ro kb5)) (J := (F66.U5 call lf ro kb5)) (F66.CKJ7 call lf ro kb5) (hd_free rfl) hr

theorem F66.R5 (call : CT) (lf ro : Nat) (n : Nat) (f : Nat → Option Value) (p46 : Nat) (o46 : Nat) (n47 : Int) (b48 : Bool) (h49 : Heap) :
    execH Tryd.prog call ro (F66.H5 call lf ro (F66.L5 call lf ro n)) (F66.U5 call lf ro (F66.L5 call lf ro n)) (sub (codeOf Tryd.f66) [true, true, true, false, false, false]) (EF 49 (updF (updF (updF f 0 (some (.pointer (some ⟨p46, o46, none⟩)))) 3 (some (.int .i64 n47))) 4 (some (.bool b48)))) h49 (outK (F66.P5 (F66.L5 call lf ro n)) (fun i e h => F66.C5 call lf ro (.exit i e h)) (fun e h => F66.C5 call lf ro (.ret e h))) = F66.L5 call lf ro (n + 1) p46 o46 n47 b48 h49 := by kernel_rfl

theorem F66.CK5 (call : CT) (lf ro : Nat) : KLe 49 (F66.C5 call lf ro) (F66.K5 call lf ro) :=
  (KLe.block (KLe.seq (H := (F66.Ht call lf ro)) (J := (F66.Ut call lf ro)) (KLe.refl _) (hd_free rfl)))

theorem F66.B5 (call : CT) (lf ro : Nat) : ∀ n e h, Shaped 49 e → LeO (F66.P5 (F66.L5 call lf ro n) e h) (loopK (execK Tryd.prog call lf ro (sub (codeOf Tryd.f66) [true, true, true, false, false, false])) n e h (F66.K5 call lf ro)) := by
  refine loop_le (fun e h k k' hs hk => execK_mono _ e h k k' hs hk) (kb := fun n => F66.P5 (F66.L5 call lf ro n)) (kx := fun i e h => F66.C5 call lf ro (.exit i e h)) (kr := fun e h => F66.C5 call lf ro (.ret e h)) ?_ ?_ (fun i e h hs => (F66.CK5 call lf ro).exit i e h hs) (fun e h hs => (F66.CK5 call lf ro).ret e h hs)
  · rintro e h ⟨f, rfl⟩
    unfold F66.P5
    refine getK_le fun w0 g0 => ?_
    rw [EF_get (by decide)] at g0
    refine ptrK_le fun p173 o173 z187 => ?_
    subst z187
    refine getK_le fun w3 g3 => ?_
    rw [EF_get (by decide)] at g3
    refine intK_le fun n174 z188 => ?_
    subst z188
    refine getK_le fun w4 g4 => ?_
    rw [EF_get (by decide)] at g4
    refine boolK_le fun b175 z189 => ?_
    subst z189
    exact LeO.refl _
  · rintro n e h ⟨f, rfl⟩
    unfold F66.P5
    refine getK_le fun w0 g0 => ?_
    rw [EF_get (by decide)] at g0
    refine ptrK_le fun p173 o173 z190 => ?_
    subst z190
    refine getK_le fun w3 g3 => ?_
    rw [EF_get (by decide)] at g3
    refine intK_le fun n174 z191 => ?_
    subst z191
    refine getK_le fun w4 g4 => ?_
    rw [EF_get (by decide)] at g4
    refine boolK_le fun b175 z192 => ?_
    subst z192
    have hr := F66.R5 call lf ro n f p173 o173 n174 b175 h
    rw [updF_same g0, updF_same g3, updF_same g4] at hr
    exact round_le (H := (F66.H5 call lf ro (F66.L5 call lf ro n))) (J := (F66.U5 call lf ro (F66.L5 call lf ro n))) ⟨(hd_free rfl), (fun e h hs => F66.BJ7 call lf ro (F66.L5 call lf ro n) e h hs)⟩ hr

theorem F66.RJ5 (call : CT) (lf ro : Nat) (f : Nat → Option Value) (p42 : Nat) (o42 : Nat) (n43 : Int) (b44 : Bool) (h45 : Heap) :
    execH Tryd.prog call ro (F66.Ht call lf ro) (F66.Ut call lf ro) (sub (codeOf Tryd.f66) [true, true, true]) (EF 49 (updF (updF (updF f 0 (some (.pointer (some ⟨p42, o42, none⟩)))) 3 (some (.int .i64 n43))) 4 (some (.bool b44)))) h45 (F66.CJ5 call lf ro) = F66.J5 call lf ro p42 o42 n43 b44 h45 := by kernel_rfl

theorem F66.CKJ5 (call : CT) (lf ro : Nat) : KLe 49 (F66.CJ5 call lf ro) (F66.KJ5 call lf ro) :=
  (KLe.refl _)

theorem F66.BJ5 (call : CT) (lf ro : Nat) : ∀ e h, Shaped 49 e → LeO (F66.PJ5 (F66.J5 call lf ro) e h) (execK Tryd.prog call lf ro (sub (codeOf Tryd.f66) [true, true, true]) e h (F66.KJ5 call lf ro)) := by
    rintro e h ⟨f, rfl⟩
    unfold F66.PJ5
    refine getK_le fun w0 g0 => ?_
    rw [EF_get (by decide)] at g0
    refine ptrK_le fun p176 o176 z193 => ?_
    subst z193
    refine getK_le fun w3 g3 => ?_
    rw [EF_get (by decide)] at g3
    refine intK_le fun n177 z194 => ?_
    subst z194
    refine getK_le fun w4 g4 => ?_
    rw [EF_get (by decide)] at g4
    refine boolK_le fun b178 z195 => ?_
    subst z195
    have hr := F66.RJ5 call lf ro f p176 o176 n177 b178 h
    rw [updF_same g0, updF_same g3, updF_same g4] at hr
    exact cut_le (H := (F66.Ht call lf ro)) (J := (F66.Ut call lf ro)) (F66.CKJ5 call lf ro) ⟨(fun e h hs => F66.B5 call lf ro  lf e h hs), (hd_free rfl)⟩ hr

theorem F66.RJ3 (call : CT) (lf ro : Nat) (f : Nat → Option Value) (p19 : Nat) (o19 : Nat) (n20 : Int) (b21 : Bool) (b22 : Bool) (h23 : Heap) :
    execH Tryd.prog call ro (F66.Ht call lf ro) (F66.Ut call lf ro) (sub (codeOf Tryd.f66) [true, true, false, true]) (EF 49 (updF (updF (updF (updF f 0 (some (.pointer (some ⟨p19, o19, none⟩)))) 3 (some (.int .i64 n20))) 4 (some (.bool b21))) 15 (some (.bool b22)))) h23 (F66.CJ3 call lf ro) = F66.J3 call lf ro p19 o19 n20 b21 b22 h23 := by kernel_rfl

theorem F66.CKJ3 (call : CT) (lf ro : Nat) : KLe 49 (F66.CJ3 call lf ro) (F66.KJ3 call lf ro) :=
  (KLe.seq (H := (F66.Ht call lf ro)) (J := (F66.Ut call lf ro)) (KLe.refl _) (fun e h hs => F66.BJ5 call lf ro  e h hs))

theorem F66.BJ3 (call : CT) (lf ro : Nat) : ∀ e h, Shaped 49 e → LeO (F66.PJ3 (F66.J3 call lf ro) e h) (execK Tryd.prog call lf ro (sub (codeOf Tryd.f66) [true, true, false, true]) e h (F66.KJ3 call lf ro)) := by
    rintro e h ⟨f, rfl⟩
    unfold F66.PJ3
    refine getK_le fun w0 g0 => ?_
    rw [EF_get (by decide)] at g0
    refine ptrK_le fun p179 o179 z199 => ?_
    subst z199
    refine getK_le fun w3 g3 => ?_
    rw [EF_get (by decide)] at g3
    refine intK_le fun n180 z200 => ?_
    subst z200
    refine getK_le fun w4 g4 => ?_
    rw [EF_get (by decide)] at g4
    refine boolK_le fun b181 z201 => ?_
    subst z201
    refine getK_le fun w15 g15 => ?_
    rw [EF_get (by decide)] at g15
    refine boolK_le fun b182 z202 => ?_
    subst z202
    have hr := F66.RJ3 call lf ro f p179 o179 n180 b181 b182 h
    rw [updF_same g0, updF_same g3, updF_same g4, updF_same g15] at hr
    exact cut_le (H := (F66.Ht call lf ro)) (J := (F66.Ut call lf ro)) (F66.CKJ3 call lf ro) (hd_free rfl) hr

theorem F66.le (call : CT) (lf ro : Nat) (px0 : Nat) (ox0 : Nat) (h : Heap) : LeO (F66.t call lf ro px0 ox0 h) (bodyK Tryd.prog call lf ro Tryd.f66 [.pointer (some ⟨px0, ox0, none⟩)] h) :=
  body_le (c := codeOf Tryd.f66) (H := F66.Ht call lf ro) (J := F66.Ut call lf ro) rfl (Nat.le_of_ble_eq_true rfl) ⟨(hd_free rfl), ⟨(hd_free rfl), ⟨⟨(hd_free rfl), (fun e h hs => F66.BJ3 call lf ro  e h hs)⟩, (fun e h hs => F66.BJ5 call lf ro  e h hs)⟩⟩⟩ (by kernel_rfl)

/-! ### (*barscan/aztext.decoder).step: function 41 -/

noncomputable def F41.J12 (call : CT) (lf ro : Nat) (p81 : Nat) (o81 : Nat) (n82 : Int) (h83 : Heap) : Out :=
  bindO (loadO Tryd.prog 3 (.pointer (some ⟨p81, o81 + 2, none⟩)) h83) fun v90 h91 =>
  intK .i64 v90 fun n92 =>
  bindO (call ro 53 [.int .i64 n92, .int .i64 n82] h91) fun v93 h94 =>
  intK .i64 v93 fun n95 =>
  ifK (decide (n95 ≥ 0)) (bindO (call ro 65 [.pointer (some ⟨p81, o81, none⟩), .int .i64 n95] h94) fun v105 h106 =>
  intK .i64 v105 fun n107 =>
  Out.ok (.int .i64 n107) h106) (ifK (n82 == 31) (bindO (call ro 66 [.pointer (some ⟨p81, o81, none⟩)] h94) fun v117 h118 =>
  intK .i64 v117 fun n119 =>
  Out.ok (.int .i64 n119) h118) (Out.ok (.int .i64 22) h94))

noncomputable def F41.PJ12 (kb : Nat → Nat → Int → Heap → Out) (e : Env) (h : Heap) : Out :=
  getK (e.get 0) fun w0 =>
  ptrK w0 fun p120 o120 =>
  getK (e.get 3) fun w3 =>
  intK .i64 w3 fun n121 =>
  kb p120 o120 n121 h

noncomputable def F41.J8 (call : CT) (lf ro : Nat) (p62 : Nat) (o62 : Nat) (n63 : Int) (h64 : Heap) : Out :=
  bindO (loadO Tryd.prog 3 (.pointer (some ⟨p62, o62 + 2, none⟩)) h64) fun v71 h72 =>
  intK .i64 v71 fun n73 =>
  bindO (call ro 54 [.int .i64 n73, .int .i64 n63] h72) fun v74 h75 =>
  intK .i64 v74 fun n76 =>
  ifK (decide (n76 ≥ 0)) (bindO (storeO Tryd.prog ro 3 (.pointer (some ⟨p62, o62 + 2, none⟩)) (.int .i64 n76) h75) fun v79 h80 =>
  Out.ok (.int .i64 0) h80) (F41.J12 call lf ro p62 o62 n63 h75)

noncomputable def F41.PJ8 (kb : Nat → Nat → Int → Heap → Out) (e : Env) (h : Heap) : Out :=
  getK (e.get 0) fun w0 =>
  ptrK w0 fun p122 o122 =>
  getK (e.get 3) fun w3 =>
  intK .i64 w3 fun n123 =>
  kb p122 o122 n123 h

noncomputable def F41.J4 (call : CT) (lf ro : Nat) (p31 : Nat) (o31 : Nat) (n32 : Int) (h33 : Heap) : Out :=
  bindO (loadO Tryd.prog 3 (.pointer (some ⟨p31, o31 + 2, none⟩)) h33) fun v40 h41 =>
  intK .i64 v40 fun n42 =>
  bindO (call ro 64 [.int .i64 n42, .int .i64 n32] h41) fun v43 h44 =>
  strK v43 fun s45 =>
  ifK (!(s45.toList == (⟨#[]⟩ : ByteArray).toList)) (bindO (loadO Tryd.prog 22 (.pointer (some ⟨p31, o31 + 3, none⟩)) h44) fun v54 h55 =>
  sliceK v54 fun a56 l56 c56 =>
  bindO (appO Tryd.prog ro 22 9 (.slice a56 l56 c56) (.string s45) h55) fun v57 h58 =>
  sliceK v57 fun a59 l59 c59 =>
  bindO (storeO Tryd.prog ro 22 (.pointer (some ⟨p31, o31 + 3, none⟩)) (.slice a59 l59 c59) h58) fun v60 h61 =>
  Out.ok (.int .i64 0) h61) (F41.J8 call lf ro p31 o31 n32 h44)

noncomputable def F41.PJ4 (kb : Nat → Nat → Int → Heap → Out) (e : Env) (h : Heap) : Out :=
  getK (e.get 0) fun w0 =>
  ptrK w0 fun p124 o124 =>
  getK (e.get 3) fun w3 =>
  intK .i64 w3 fun n125 =>
  kb p124 o124 n125 h

noncomputable def F41.t (call : CT) (lf ro : Nat) (px0 : Nat) (ox0 : Nat) (h : Heap) : Out :=
  bindO (loadO Tryd.prog 3 (.pointer (some ⟨px0, ox0 + 2, none⟩)) h) fun v16 h17 =>
  intK .i64 v16 fun n18 =>
  bindO (call ro 51 [.int .i64 n18] h17) fun v19 h20 =>
  intK .i64 v19 fun n21 =>
  bindO (call ro 63 [.pointer (some ⟨px0, ox0, none⟩), .int .i64 n21] h20) fun v22 h23 =>
  tupK v22 fun q24 =>
  consK q24 fun x25 q26 =>
  intK .i64 x25 fun n27 =>
  consK q26 fun x28 q29 =>
  boolK x28 fun b30 =>
  nilK q29 <|
  ifK (!b30) (Out.ok (.int .i64 10) h23) (F41.J4 call lf ro px0 ox0 n27 h23)

noncomputable def F41.Ht (call : CT) (lf ro : Nat) (i : Nat) (e : Env) (h : Heap) : Out := .fail
noncomputable def F41.Ut (call : CT) (lf ro : Nat) (i : Nat) : Option (Env → Heap → Out) := ifJ (i == 12) (some (F41.PJ12 (F41.J12 call lf ro))) (ifJ (i == 8) (some (F41.PJ8 (F41.J8 call lf ro))) (ifJ (i == 4) (some (F41.PJ4 (F41.J4 call lf ro))) (none)))

noncomputable def F41.CJ12 (call : CT) (lf ro : Nat) : COut → Out := endK Tryd.prog Tryd.f41

noncomputable def F41.KJ12 (call : CT) (lf ro : Nat) : COut → Out := endK Tryd.prog Tryd.f41

noncomputable def F41.CJ8 (call : CT) (lf ro : Nat) : COut → Out := endK Tryd.prog Tryd.f41

noncomputable def F41.KJ8 (call : CT) (lf ro : Nat) : COut → Out := endK Tryd.prog Tryd.f41

noncomputable def F41.CJ4 (call : CT) (lf ro : Nat) : COut → Out := endK Tryd.prog Tryd.f41

noncomputable def F41.KJ4 (call : CT) (lf ro : Nat) : COut → Out := endK Tryd.prog Tryd.f41

theorem F41.RJ12 (call : CT) (lf ro : Nat) (f : Nat → Option Value) (p81 : Nat) (o81 : Nat) (n82 : Int) (h83 : Heap) :
    execH Tryd.prog call ro (F41.Ht call lf ro) (F41.Ut call lf ro) (sub (codeOf Tryd.f41) [true, true, true, true, true]) (EF 64 (updF (updF f 0 (some (.pointer (some ⟨p81, o81, none⟩)))) 3 (some (.int .i64 n82)))) h83 (F41.CJ12 call lf ro) = F41.J12 call lf ro p81 o81 n82 h83 := by kernel_rfl

theorem F41.CKJ12 (call : CT) (lf ro : Nat) : KLe 64 (F41.CJ12 call lf ro) (F41.KJ12 call lf ro) :=
  (KLe.refl _)

theorem F41.BJ12 (call : CT) (lf ro : Nat) : ∀ e h, Shaped 64 e → LeO (F41.PJ12 (F41.J12 call lf ro) e h) (execK Tryd.prog call lf ro (sub (codeOf Tryd.f41) [true, true, true, true, true]) e h (F41.KJ12 call lf ro)) := by
    rintro e h ⟨f, rfl⟩
    unfold F41.PJ12
    refine getK_le fun w0 g0 => ?_
    rw [EF_get (by decide)] at g0
    refine ptrK_le fun p120 o120 z126 => ?_
    subst z126
    refine getK_le fun w3 g3 => ?_
    rw [EF_get (by decide)] at g3
    refine intK_le fun n121 z127 => ?_
    subst z127
    have hr := F41.RJ12 call lf ro f p120 o120 n121 h
    rw [updF_same g0, updF_same g3] at hr
    exact cut_le (H := (F41.Ht call lf ro)) (J := (F41.Ut call lf ro)) (F41.CKJ12 call lf ro) (hd_free rfl) hr

theorem F41.RJ8 (call : CT) (lf ro : Nat) (f : Nat → Option Value) (p62 : Nat) (o62 : Nat) (n63 : Int) (h64 : Heap) :
    execH Tryd.prog call ro (F41.Ht call lf ro) (F41.Ut call lf ro) (sub (codeOf Tryd.f41) [true, true, true, true]) (EF 64 (updF (updF f 0 (some (.pointer (some ⟨p62, o62, none⟩)))) 3 (some (.int .i64 n63)))) h64 (F41.CJ8 call lf ro) = F41.J8 call lf ro p62 o62 n63 h64 := by kernel_rfl

theorem F41.CKJ8 (call : CT) (lf ro : Nat) : KLe 64 (F41.CJ8 call lf ro) (F41.KJ8 call lf ro) :=
  (KLe.refl _)

theorem F41.BJ8 (call : CT) (lf ro : Nat) : ∀ e h, Shaped 64 e → LeO (F41.PJ8 (F41.J8 call lf ro) e h) (execK Tryd.prog call lf ro (sub (codeOf Tryd.f41) [true, true, true, true]) e h (F41.KJ8 call lf ro)) := by
    rintro e h ⟨f, rfl⟩
    unfold F41.PJ8
    refine getK_le fun w0 g0 => ?_
    rw [EF_get (by decide)] at g0
    refine ptrK_le fun p122 o122 z130 => ?_
    subst z130
    refine getK_le fun w3 g3 => ?_
    rw [EF_get (by decide)] at g3
    refine intK_le fun n123 z131 => ?_
    subst z131
    have hr := F41.RJ8 call lf ro f p122 o122 n123 h
    rw [updF_same g0, updF_same g3] at hr
    exact cut_le (H := (F41.Ht call lf ro)) (J := (F41.Ut call lf ro)) (F41.CKJ8 call lf ro) ⟨(hd_free rfl), (fun e h hs => F41.BJ12 call lf ro  e h hs)⟩ hr

theorem F41.RJ4 (call : CT) (lf ro : Nat) (f : Nat → Option Value) (p31 : Nat) (o31 : Nat) (n32 : Int) (h33 : Heap) :
    execH Tryd.prog call ro (F41.Ht call lf ro) (F41.Ut call lf ro) (sub (codeOf Tryd.f41) [true, true, true]) (EF 64 (updF (updF f 0 (some (.pointer (some ⟨p31, o31, none⟩)))) 3 (some (.int .i64 n32)))) h33 (F41.CJ4 call lf ro) = F41.J4 call lf ro p31 o31 n32 h33 := by kernel_rfl

theorem F41.CKJ4 (call : CT) (lf ro : Nat) : KLe 64 (F41.CJ4 call lf ro) (F41.KJ4 call lf ro) :=
  (KLe.refl _)

theorem F41.BJ4 (call : CT) (lf ro : Nat) : ∀ e h, Shaped 64 e → LeO (F41.PJ4 (F41.J4 call lf ro) e h) (execK Tryd.prog call lf ro (sub (codeOf Tryd.f41) [true, true, true]) e h (F41.KJ4 call lf ro)) := by
    rintro e h ⟨f, rfl⟩
    unfold F41.PJ4
    refine getK_le fun w0 g0 => ?_
    rw [EF_get (by decide)] at g0
    refine ptrK_le fun p124 o124 z134 => ?_
    subst z134
    refine getK_le fun w3 g3 => ?_
    rw [EF_get (by decide)] at g3
    refine intK_le fun n125 z135 => ?_
    subst z135
    have hr := F41.RJ4 call lf ro f p124 o124 n125 h
    rw [updF_same g0, updF_same g3] at hr
    exact cut_le (H := (F41.Ht call lf ro)) (J := (F41.Ut call lf ro)) (F41.CKJ4 call lf ro) ⟨(hd_free rfl), (fun e h hs => F41.BJ8 call lf ro  e h hs)⟩ hr

theorem F41.le (call : CT) (lf ro : Nat) (px0 : Nat) (ox0 : Nat) (h : Heap) : LeO (F41.t call lf ro px0 ox0 h) (bodyK Tryd.prog call lf ro Tryd.f41 [.pointer (some ⟨px0, ox0, none⟩)] h) :=
  body_le (c := codeOf Tryd.f41) (H := F41.Ht call lf ro) (J := F41.Ut call lf ro) rfl (Nat.le_of_ble_eq_true rfl) ⟨(hd_free rfl), ⟨(hd_free rfl), ⟨(hd_free rfl), (fun e h hs => F41.BJ4 call lf ro  e h hs)⟩⟩⟩ (by kernel_rfl)

/-! ### barscan/aztext.Decode: function 16 -/

noncomputable def F16.J5 (call : CT) (lf ro : Nat) (kb4 : Nat → Nat → Heap → Out) (p13 : Nat) (o13 : Nat) (h14 : Heap) : Out :=
  bindO (call ro 41 [.pointer (some ⟨p13, o13, none⟩)] h14) fun v24 h25 =>
  intK .i64 v24 fun n26 =>
  ifK (n26 != 0) (Out.ok (.tuple #[.slice none 0 0, .int .i64 n26]) h25) (kb4 p13 o13 h25)

noncomputable def F16.PJ5 (kb : Nat → Nat → Heap → Out) (e : Env) (h : Heap) : Out :=
  getK (e.get 4) fun w4 =>
  ptrK w4 fun p27 o27 =>
  kb p27 o27 h

noncomputable def F16.L4 (call : CT) (lf ro : Nat) : Nat → Nat → Nat → Heap → Out
  | 0, _, _, _ => .fail
  | n + 1, p5, o5, h6 =>
  bindO (call ro 40 [.pointer (some ⟨p5, o5, none⟩)] h6) fun v31 h32 =>
  boolK v31 fun b33 =>
  ifK (!b33) (F16.J5 call lf ro (F16.L4 call lf ro n) p5 o5 h32) (bindO (loadO Tryd.prog 22 (.pointer (some ⟨p5, o5 + 3, none⟩)) h32) fun v37 h38 =>
  sliceK v37 fun a39 l39 c39 =>
  Out.ok (.tuple #[.slice a39 l39 c39, .int .i64 0]) h38)

noncomputable def F16.P4 (kb : Nat → Nat → Heap → Out) (e : Env) (h : Heap) : Out :=
  getK (e.get 4) fun w4 =>
  ptrK w4 fun p40 o40 =>
  kb p40 o40 h

noncomputable def F16.J3 (call : CT) (lf ro : Nat) (a1 : Option Addr) (l1 : Nat) (c1 : Nat) (h2 : Heap) : Out :=
  pushJ h2 1 [.slice a1 l1 c1, .int .i64 0, .int .i64 0, .slice none 0 0] fun h4 =>
  F16.L4 call lf ro lf h2.next 0 h4

noncomputable def F16.PJ3 (kb : (Option Addr) → Nat → Nat → Heap → Out) (e : Env) (h : Heap) : Out :=
  getK (e.get 0) fun w0 =>
  sliceK w0 fun a41 l41 c41 =>
  kb a41 l41 c41 h

noncomputable def F16.t (call : CT) (lf ro : Nat) (ax0 : Option Addr) (lx0 : Nat) (cx0 : Nat) (h : Heap) : Out :=
  ifK (decide ((lx0 : Int) > 1048576)) (Out.ok (.tuple #[.slice none 0 0, .int .i64 4]) h) (F16.J3 call lf ro ax0 lx0 cx0 h)

noncomputable def F16.Ht (call : CT) (lf ro : Nat) (i : Nat) (e : Env) (h : Heap) : Out := ifK (i == 4) (F16.P4 (F16.L4 call lf ro lf) e h) (.fail)
noncomputable def F16.Ut (call : CT) (lf ro : Nat) (i : Nat) : Option (Env → Heap → Out) := ifJ (i == 3) (some (F16.PJ3 (F16.J3 call lf ro))) (none)

noncomputable def F16.H4 (call : CT) (lf ro : Nat) (kb4 : Nat → Nat → Heap → Out) (i : Nat) (e : Env) (h : Heap) : Out := ifK (i == 4) (F16.P4 (F16.L4 call lf ro lf) e h) (.fail)
noncomputable def F16.U4 (call : CT) (lf ro : Nat) (kb4 : Nat → Nat → Heap → Out) (i : Nat) : Option (Env → Heap → Out) := ifJ (i == 5) (some (F16.PJ5 (F16.J5 call lf ro kb4))) (ifJ (i == 3) (some (F16.PJ3 (F16.J3 call lf ro))) (none))

noncomputable def F16.C4 (call : CT) (lf ro : Nat) : COut → Out := blockK 0 (seqH Tryd.prog call ro (F16.Ht call lf ro) (F16.Ut call lf ro) (sub (codeOf Tryd.f16) [true, true, true, true]) (endK Tryd.prog Tryd.f16))

noncomputable def F16.K4 (call : CT) (lf ro : Nat) : COut → Out := blockK 0 (seqK Tryd.prog call lf ro (sub (codeOf Tryd.f16) [true, true, true, true]) (endK Tryd.prog Tryd.f16))

noncomputable def F16.CJ3 (call : CT) (lf ro : Nat) : COut → Out := endK Tryd.prog Tryd.f16

noncomputable def F16.KJ3 (call : CT) (lf ro : Nat) : COut → Out := endK Tryd.prog Tryd.f16

noncomputable def F16.CJ5 (call : CT) (lf ro : Nat) (kb4 : Nat → Nat → Heap → Out) : COut → Out := outK (F16.P4 kb4) (fun i e h => F16.C4 call lf ro (.exit i e h)) (fun e h => F16.C4 call lf ro (.ret e h))

noncomputable def F16.KJ5 (call : CT) (lf ro : Nat) (kb4 : Nat → Nat → Heap → Out) : COut → Out := outK (F16.P4 kb4) (fun i e h => F16.C4 call lf ro (.exit i e h)) (fun e h => F16.C4 call lf ro (.ret e h))

theorem F16.RJ5 (call : CT) (lf ro : Nat) (kb4 : Nat → Nat → Heap → Out) (f : Nat → Option Value) (p13 : Nat) (o13 : Nat) (h14 : Heap) :
    execH Tryd.prog call ro (F16.H4 call lf ro kb4) (F16.U4 call lf ro kb4) (sub (codeOf Tryd.f16) [true, true, true, false, false, false, true]) (EF 24 (updF f 4 (some (.pointer (some ⟨p13, o13, none⟩))))) h14 (F16.CJ5 call lf ro kb4) = F16.J5 call lf ro kb4 p13 o13 h14 := by kernel_rfl

theorem F16.CKJ5 (call : CT) (lf ro : Nat) (kb4 : Nat → Nat → Heap → Out) : KLe 24 (F16.CJ5 call lf ro kb4) (F16.KJ5 call lf ro kb4) :=
  (KLe.refl _)

theorem F16.BJ5 (call : CT) (lf ro : Nat) (kb4 : Nat → Nat → Heap → Out) : ∀ e h, Shaped 24 e → LeO (F16.PJ5 (F16.J5 call lf ro kb4) e h) (execK Tryd.prog call lf ro (sub (codeOf Tryd.f16) [true, true, true, false, false, false, true]) e h (F16.KJ5 call lf ro kb4)) := by
    rintro e h ⟨f, rfl⟩
    unfold F16.PJ5
    refine getK_le fun w4 g4 => ?_
    rw [EF_get (by decide)] at g4
    refine ptrK_le fun p27 o27 z42 => ?_
    subst z42
    have hr := F16.RJ5 call lf ro kb4 f p27 o27 h
    rw [updF_same g4] at hr
    exact cut_le (H := (F16.H4 call lf ro kb4)) (J := (F16.U4 call lf ro kb4)) (F16.CKJ5 call lf ro kb4) (hd_free rfl) hr

theorem F16.R4 (call : CT) (lf ro : Nat) (n : Nat) (f : Nat → Option Value) (p5 : Nat) (o5 : Nat) (h6 : Heap) :
    execH Tryd.prog call ro (F16.H4 call lf ro (F16.L4 call lf ro n)) (F16.U4 call lf ro (F16.L4 call lf ro n)) (sub (codeOf Tryd.f16) [true, true, true, false, false, false]) (EF 24 (updF f 4 (some (.pointer (some ⟨p5, o5, none⟩))))) h6 (outK (F16.P4 (F16.L4 call lf ro n)) (fun i e h => F16.C4 call lf ro (.exit i e h)) (fun e h => F16.C4 call lf ro (.ret e h))) = F16.L4 call lf ro (n + 1) p5 o5 h6 := by kernel_rfl

theorem F16.CK4 (call : CT) (lf ro : Nat) : KLe 24 (F16.C4 call lf ro) (F16.K4 call lf ro) :=
  (KLe.block (KLe.seq (H := (F16.Ht call lf ro)) (J := (F16.Ut call lf ro)) (KLe.refl _) (hd_free rfl)))

theorem F16.B4 (call : CT) (lf ro : Nat) : ∀ n e h, Shaped 24 e → LeO (F16.P4 (F16.L4 call lf ro n) e h) (loopK (execK Tryd.prog call lf ro (sub (codeOf Tryd.f16) [true, true, true, false, false, false])) n e h (F16.K4 call lf ro)) := by
  refine loop_le (fun e h k k' hs hk => execK_mono _ e h k k' hs hk) (kb := fun n => F16.P4 (F16.L4 call lf ro n)) (kx := fun i e h => F16.C4 call lf ro (.exit i e h)) (kr := fun e h => F16.C4 call lf ro (.ret e h)) ?_ ?_ (fun i e h hs => (F16.CK4 call lf ro).exit i e h hs) (fun e h hs => (F16.CK4 call lf ro).ret e h hs)
  · rintro e h ⟨f, rfl⟩
    unfold F16.P4
    refine getK_le fun w4 g4 => ?_
    rw [EF_get (by decide)] at g4
    refine ptrK_le fun p40 o40 z44 => ?_
    subst z44
    exact LeO.refl _
  · rintro n e h ⟨f, rfl⟩
    unfold F16.P4
    refine getK_le fun w4 g4 => ?_
    rw [EF_get (by decide)] at g4
    refine ptrK_le fun p40 o40 z45 => ?_
    subst z45
    have hr := F16.R4 call lf ro n f p40 o40 h
    rw [updF_same g4] at hr
    exact round_le (H := (F16.H4 call lf ro (F16.L4 call lf ro n))) (J := (F16.U4 call lf ro (F16.L4 call lf ro n))) ⟨(hd_free rfl), (fun e h hs => F16.BJ5 call lf ro (F16.L4 call lf ro n) e h hs)⟩ hr

theorem F16.RJ3 (call : CT) (lf ro : Nat) (f : Nat → Option Value) (a1 : Option Addr) (l1 : Nat) (c1 : Nat) (h2 : Heap) :
    execH Tryd.prog call ro (F16.Ht call lf ro) (F16.Ut call lf ro) (sub (codeOf Tryd.f16) [true, true]) (EF 24 (updF f 0 (some (.slice a1 l1 c1)))) h2 (F16.CJ3 call lf ro) = F16.J3 call lf ro a1 l1 c1 h2 := by kernel_rfl

theorem F16.CKJ3 (call : CT) (lf ro : Nat) : KLe 24 (F16.CJ3 call lf ro) (F16.KJ3 call lf ro) :=
  (KLe.refl _)

theorem F16.BJ3 (call : CT) (lf ro : Nat) : ∀ e h, Shaped 24 e → LeO (F16.PJ3 (F16.J3 call lf ro) e h) (execK Tryd.prog call lf ro (sub (codeOf Tryd.f16) [true, true]) e h (F16.KJ3 call lf ro)) := by
    rintro e h ⟨f, rfl⟩
    unfold F16.PJ3
    refine getK_le fun w0 g0 => ?_
    rw [EF_get (by decide)] at g0
    refine sliceK_le fun a41 l41 c41 z46 => ?_
    subst z46
    have hr := F16.RJ3 call lf ro f a41 l41 c41 h
    rw [updF_same g0] at hr
    exact cut_le (H := (F16.Ht call lf ro)) (J := (F16.Ut call lf ro)) (F16.CKJ3 call lf ro) ⟨(hd_free rfl), ⟨(fun e h hs => F16.B4 call lf ro  lf e h hs), (hd_free rfl)⟩⟩ hr

theorem F16.le (call : CT) (lf ro : Nat) (ax0 : Option Addr) (lx0 : Nat) (cx0 : Nat) (h : Heap) : LeO (F16.t call lf ro ax0 lx0 cx0 h) (bodyK Tryd.prog call lf ro Tryd.f16 [.slice ax0 lx0 cx0] h) :=
  body_le (c := codeOf Tryd.f16) (H := F16.Ht call lf ro) (J := F16.Ut call lf ro) rfl (Nat.le_of_ble_eq_true rfl) ⟨(hd_free rfl), ⟨(hd_free rfl), (fun e h hs => F16.BJ3 call lf ro  e h hs)⟩⟩ (by kernel_rfl)

/-! ### barscan/barscanref01.Take: function 67 -/

noncomputable def F67.J9 (call : CT) (lf ro : Nat) (kb7 : (Option Addr) → Nat → Nat → Int → Int → Int → Int → Heap → Out) (a19 : Option Addr) (l19 : Nat) (c19 : Nat) (n20 : Int) (n21 : Int) (n22 : Int) (n23 : Int) (h24 : Heap) : Out :=
  letJ (fun (n58 : Int) (h59 : Heap) =>
  (kb7 a19 l19 c19 n20 n21 n58 (IntKind.i64.wrap (n23 + 1)) h59)) fun j60 =>
  bindO (idxO Tryd.prog 24 (.slice a19 l19 c19) (.int .i64 n23) h24) fun v66 h67 =>
  bindO (loadO Tryd.prog 4 v66 h67) fun v68 h69 =>
  boolK v68 fun b70 =>
  ifK b70 (j60 (IntKind.i64.wrap ((IntKind.i64.wrap (2 * n22)) + 1)) h69) (j60 (IntKind.i64.wrap (2 * n22)) h69)

noncomputable def F67.PJ9 (kb : (Option Addr) → Nat → Nat → Int → Int → Int → Int → Heap → Out) (e : Env) (h : Heap) : Out :=
  getK (e.get 0) fun w0 =>
  sliceK w0 fun a71 l71 c71 =>
  getK (e.get 1) fun w1 =>
  intK .i64 w1 fun n72 =>
  getK (e.get 2) fun w2 =>
  intK .i64 w2 fun n73 =>
  getK (e.get 8) fun w8 =>
  intK .i64 w8 fun n74 =>
  getK (e.get 9) fun w9 =>
  intK .i64 w9 fun n75 =>
  kb a71 l71 c71 n72 n73 n74 n75 h

noncomputable def F67.L7 (call : CT) (lf ro : Nat) : Nat → (Option Addr) → Nat → Nat → Int → Int → Int → Int → Heap → Out
  | 0, _, _, _, _, _, _, _, _ => .fail
  | n + 1, a13, l13, c13, n14, n15, n16, n17, h18 =>
  ifK (decide (n17 < IntKind.i64.wrap (n14 + n15))) (F67.J9 call lf ro (F67.L7 call lf ro n) a13 l13 c13 n14 n15 n16 n17 h18) (Out.ok (.tuple #[.int .i64 n16, .int .i64 0]) h18)

noncomputable def F67.P7 (kb : (Option Addr) → Nat → Nat → Int → Int → Int → Int → Heap → Out) (e : Env) (h : Heap) : Out :=
  getK (e.get 0) fun w0 =>
  sliceK w0 fun a76 l76 c76 =>
  getK (e.get 1) fun w1 =>
  intK .i64 w1 fun n77 =>
  getK (e.get 2) fun w2 =>
  intK .i64 w2 fun n78 =>
  getK (e.get 8) fun w8 =>
  intK .i64 w8 fun n79 =>
  getK (e.get 9) fun w9 =>
  intK .i64 w9 fun n80 =>
  kb a76 l76 c76 n77 n78 n79 n80 h

noncomputable def F67.J5 (call : CT) (lf ro : Nat) (a9 : Option Addr) (l9 : Nat) (c9 : Nat) (n10 : Int) (n11 : Int) (h12 : Heap) : Out :=
  F67.L7 call lf ro lf a9 l9 c9 n10 n11 0 n10 h12

noncomputable def F67.PJ5 (kb : (Option Addr) → Nat → Nat → Int → Int → Heap → Out) (e : Env) (h : Heap) : Out :=
  getK (e.get 0) fun w0 =>
  sliceK w0 fun a81 l81 c81 =>
  getK (e.get 1) fun w1 =>
  intK .i64 w1 fun n82 =>
  getK (e.get 2) fun w2 =>
  intK .i64 w2 fun n83 =>
  kb a81 l81 c81 n82 n83 h

noncomputable def F67.J3 (call : CT) (lf ro : Nat) (a5 : Option Addr) (l5 : Nat) (c5 : Nat) (n6 : Int) (n7 : Int) (h8 : Heap) : Out :=
  ifK (decide (n7 > IntKind.i64.wrap ((l5 : Int) - n6))) (Out.ok (.tuple #[.int .i64 0, .int .i64 10]) h8) (F67.J5 call lf ro a5 l5 c5 n6 n7 h8)

noncomputable def F67.PJ3 (kb : (Option Addr) → Nat → Nat → Int → Int → Heap → Out) (e : Env) (h : Heap) : Out :=
  getK (e.get 0) fun w0 =>
  sliceK w0 fun a84 l84 c84 =>
  getK (e.get 1) fun w1 =>
  intK .i64 w1 fun n85 =>
  getK (e.get 2) fun w2 =>
  intK .i64 w2 fun n86 =>
  kb a84 l84 c84 n85 n86 h

noncomputable def F67.t (call : CT) (lf ro : Nat) (ax0 : Option Addr) (lx0 : Nat) (cx0 : Nat) (x1 : Int) (x2 : Int) (h : Heap) : Out :=
  letJ (fun (n1 : Int) (n2 : Int) (b3 : Bool) =>
  (ifK b3 (Out.ok (.tuple #[.int .i64 0, .int .i64 3]) h) (F67.J3 call lf ro ax0 lx0 cx0 n1 n2 h))) fun j4 =>
  ifK (decide (x2 < 0)) (j4 x1 x2 true) (ifK (decide (x2 > 62)) (j4 x1 x2 true) (ifK (decide (x1 < 0)) (j4 x1 x2 true) (j4 x1 x2 (decide (x1 > (lx0 : Int))))))

noncomputable def F67.Ht (call : CT) (lf ro : Nat) (i : Nat) (e : Env) (h : Heap) : Out := ifK (i == 7) (F67.P7 (F67.L7 call lf ro lf) e h) (.fail)
noncomputable def F67.Ut (call : CT) (lf ro : Nat) (i : Nat) : Option (Env → Heap → Out) := ifJ (i == 5) (some (F67.PJ5 (F67.J5 call lf ro))) (ifJ (i == 3) (some (F67.PJ3 (F67.J3 call lf ro))) (none))

noncomputable def F67.H7 (call : CT) (lf ro : Nat) (kb7 : (Option Addr) → Nat → Nat → Int → Int → Int → Int → Heap → Out) (i : Nat) (e : Env) (h : Heap) : Out := ifK (i == 7) (F67.P7 (F67.L7 call lf ro lf) e h) (.fail)
noncomputable def F67.U7 (call : CT) (lf ro : Nat) (kb7 : (Option Addr) → Nat → Nat → Int → Int → Int → Int → Heap → Out) (i : Nat) : Option (Env → Heap → Out) := ifJ (i == 9) (some (F67.PJ9 (F67.J9 call lf ro kb7))) (ifJ (i == 5) (some (F67.PJ5 (F67.J5 call lf ro))) (ifJ (i == 3) (some (F67.PJ3 (F67.J3 call lf ro))) (none)))

noncomputable def F67.C7 (call : CT) (lf ro : Nat) : COut → Out := blockK 0 (seqH Tryd.prog call ro (F67.Ht call lf ro) (F67.Ut call lf ro) (sub (codeOf Tryd.f67) [true, true, true, true, true]) (endK Tryd.prog Tryd.f67))

noncomputable def F67.K7 (call : CT) (lf ro : Nat) : COut → Out := blockK 0 (seqK Tryd.prog call lf ro (sub (codeOf Tryd.f67) [true, true, true, true, true]) (endK Tryd.prog Tryd.f67))

noncomputable def F67.CJ5 (call : CT) (lf ro : Nat) : COut → Out := endK Tryd.prog Tryd.f67

noncomputable def F67.KJ5 (call : CT) (lf ro : Nat) : COut → Out := endK Tryd.prog Tryd.f67

noncomputable def F67.CJ3 (call : CT) (lf ro : Nat) : COut → Out := endK Tryd.prog Tryd.f67

noncomputable def F67.KJ3 (call : CT) (lf ro : Nat) : COut → Out := endK Tryd.prog Tryd.f67

noncomputable def F67.CJ9 (call : CT) (lf ro : Nat) (kb7 : (Option Addr) → Nat → Nat → Int → Int → Int → Int → Heap → Out) : COut → Out := outK (F67.P7 kb7) (fun i e h => F67.C7 call lf ro (.exit i e h)) (fun e h => F67.C7 call lf ro (.ret e h))

noncomputable def F67.KJ9 (call : CT) (lf ro : Nat) (kb7 : (Option Addr) → Nat → Nat → Int → Int → Int → Int → Heap → Out) : COut → Out := outK (F67.P7 kb7) (fun i e h => F67.C7 call lf ro (.exit i e h)) (fun e h => F67.C7 call lf ro (.ret e h))

theorem F67.RJ9 (call : CT) (lf ro : Nat) (kb7 : (Option Addr) → Nat → Nat → Int → Int → Int → Int → Heap → Out) (f : Nat → Option Value) (a19 : Option Addr) (l19 : Nat) (c19 : Nat) (n20 : Int) (n21 : Int) (n22 : Int) (n23 : Int) (h24 : Heap) :
    execH Tryd.prog call ro (F67.H7 call lf ro kb7) (F67.U7 call lf ro kb7) (sub (codeOf Tryd.f67) [true, true, true, true, false, true, false, false, true]) (EF 49 (updF (updF (updF (updF (updF f 0 (some (.slice a19 l19 c19))) 1 (some (.int .i64 n20))) 2 (some (.int .i64 n21))) 8 (some (.int .i64 n22))) 9 (some (.int .i64 n23)))) h24 (F67.CJ9 call lf ro kb7) = F67.J9 call lf ro kb7 a19 l19 c19 n20 n21 n22 n23 h24 := by kernel_rfl

theorem F67.CKJ9 (call : CT) (lf ro : Nat) (kb7 : (Option Addr) → Nat → Nat → Int → Int → Int → Int → Heap → Out) : KLe 49 (F67.CJ9 call lf ro kb7) (F67.KJ9 call lf ro kb7) :=
  (KLe.refl _)

theorem F67.BJ9 (call : CT) (lf ro : Nat) (kb7 : (Option Addr) → Nat → Nat → Int → Int → Int → Int → Heap → Out) : ∀ e h, Shaped 49 e → LeO (F67.PJ9 (F67.J9 call lf ro kb7) e h) (execK Tryd.prog call lf ro (sub (codeOf Tryd.f67) [true, true, true, true, false, true, false, false, true]) e h (F67.KJ9 call lf ro kb7)) := by
    rintro e h ⟨f, rfl⟩
    unfold F67.PJ9
    refine getK_le fun w0 g0 => ?_
    rw [EF_get (by decide)] at g0
    refine sliceK_le fun a71 l71 c71 z87 => ?_
    subst z87
    refine getK_le fun w1 g1 => ?_
    rw [EF_get (by decide)] at g1
    refine intK_le fun n72 z88 => ?_
    subst z88
    refine getK_le fun w2 g2 => ?_
    rw [EF_get (by decide)] at g2
    refine intK_le fun n73 z89 => ?_
    subst z89
    refine getK_le fun w8 g8 => ?_
    rw [EF_get (by decide)] at g8
    refine intK_le fun n74 z90 => ?_
    subst z90
    refine getK_le fun w9 g9 => ?_
    rw [EF_get (by decide)] at g9
    refine intK_le fun n75 z91 => ?_
    subst z91
    have hr := F67.RJ9 call lf ro kb7 f a71 l71 c71 n72 n73 n74 n75 h
    rw [updF_same g0, updF_same g1, updF_same g2, updF_same g8, updF_same g9] at hr
    exact cut_le (H := (F67.H7 call lf ro kb7)) (J := (F67.U7 call lf ro kb7)) (F67.CKJ9 call lf ro kb7) (hd_free rfl) hr

theorem F67.R7 (call : CT) (lf ro : Nat) (n : Nat) (f : Nat → Option Value) (a13 : Option Addr) (l13 : Nat) (c13 : Nat) (n14 : Int) (n15 : Int) (n16 : Int) (n17 : Int) (h18 : Heap) :
    execH Tryd.prog call ro (F67.H7 call lf ro (F67.L7 call lf ro n)) (F67.U7 call lf ro (F67.L7 call lf ro n)) (sub (codeOf Tryd.f67) [true, true, true, true, false, true, false, false]) (EF 49 (updF (updF (updF (updF (updF f 0 (some (.slice a13 l13 c13))) 1 (some (.int .i64 n14))) 2 (some (.int .i64 n15))) 8 (some (.int .i64 n16))) 9 (some (.int .i64 n17)))) h18 (outK (F67.P7 (F67.L7 call lf ro n)) (fun i e h => F67.C7 call lf ro (.exit i e h)) (fun e h => F67.C7 call lf ro (.ret e h))) = F67.L7 call lf ro (n + 1) a13 l13 c13 n14 n15 n16 n17 h18 := by kernel_rfl

theorem F67.CK7 (call : CT) (lf ro : Nat) : KLe 49 (F67.C7 call lf ro) (F67.K7 call lf ro) :=
  (KLe.block (KLe.seq (H := (F67.Ht call lf ro)) (J := (F67.Ut call lf ro)) (KLe.refl _) (hd_free rfl)))

theorem F67.B7 (call : CT) (lf ro : Nat) : ∀ n e h, Shaped 49 e → LeO (F67.P7 (F67.L7 call lf ro n) e h) (loopK (execK Tryd.prog call lf ro (sub (codeOf Tryd.f67) [true, true, true, true, false, true, false, false])) n e h (F67.K7 call lf ro)) := by
  refine loop_le (fun e h k k' hs hk => execK_mono _ e h k k' hs hk) (kb := fun n => F67.P7 (F67.L7 call lf ro n)) (kx := fun i e h => F67.C7 call lf ro (.exit i e h)) (kr := fun e h => F67.C7 call lf ro (.ret e h)) ?_ ?_ (fun i e h hs => (F67.CK7 call lf ro).exit i e h hs) (fun e h hs => (F67.CK7 call lf ro).ret e h hs)
  · rintro e h ⟨f, rfl⟩
    unfold F67.P7
    refine getK_le fun w0 g0 => ?_
    rw [EF_get (by decide)] at g0
    refine sliceK_le fun a76 l76 c76 z97 => ?_
    subst z97
    refine getK_le fun w1 g1 => ?_
    rw [EF_get (by decide)] at g1
    refine intK_le fun n77 z98 => ?_
    subst z98
    refine getK_le fun w2 g2 => ?_
    rw [EF_get (by decide)] at g2
    refine intK_le fun n78 z99 => ?_
    subst z99
    refine getK_le fun w8 g8 => ?_
    rw [EF_get (by decide)] at g8
    refine intK_le fun n79 z100 => ?_
    subst z100
    refine getK_le fun w9 g9 => ?_
    rw [EF_get (by decide)] at g9
    refine intK_le fun n80 z101 => ?_
    subst z101
    exact LeO.refl _
  · rintro n e h ⟨f, rfl⟩
    unfold F67.P7
    refine getK_le fun w0 g0 => ?_
    rw [EF_get (by decide)] at g0
    refine sliceK_le fun a76 l76 c76 z102 => ?_
    subst z102
    refine getK_le fun w1 g1 => ?_
    rw [EF_get (by decide)] at g1
    refine intK_le fun n77 z103 => ?_
    subst z103
    refine getK_le fun w2 g2 => ?_
    rw [EF_get (by decide)] at g2
    refine intK_le fun n78 z104 => ?_
    subst z104
    refine getK_le fun w8 g8 => ?_
    rw [EF_get (by decide)] at g8
    refine intK_le fun n79 z105 => ?_
    subst z105
    refine getK_le fun w9 g9 => ?_
    rw [EF_get (by decide)] at g9
    refine intK_le fun n80 z106 => ?_
    subst z106
    have hr := F67.R7 call lf ro n f a76 l76 c76 n77 n78 n79 n80 h
    rw [updF_same g0, updF_same g1, updF_same g2, updF_same g8, updF_same g9] at hr
    exact round_le (H := (F67.H7 call lf ro (F67.L7 call lf ro n))) (J := (F67.U7 call lf ro (F67.L7 call lf ro n))) ⟨(hd_free rfl), (fun e h hs => F67.BJ9 call lf ro (F67.L7 call lf ro n) e h hs)⟩ hr

theorem F67.RJ5 (call : CT) (lf ro : Nat) (f : Nat → Option Value) (a9 : Option Addr) (l9 : Nat) (c9 : Nat) (n10 : Int) (n11 : Int) (h12 : Heap) :
    execH Tryd.prog call ro (F67.Ht call lf ro) (F67.Ut call lf ro) (sub (codeOf Tryd.f67) [true, true, true]) (EF 49 (updF (updF (updF f 0 (some (.slice a9 l9 c9))) 1 (some (.int .i64 n10))) 2 (some (.int .i64 n11)))) h12 (F67.CJ5 call lf ro) = F67.J5 call lf ro a9 l9 c9 n10 n11 h12 := by kernel_rfl

theorem F67.CKJ5 (call : CT) (lf ro : Nat) : KLe 49 (F67.CJ5 call lf ro) (F67.KJ5 call lf ro) :=
  (KLe.refl _)

theorem F67.BJ5 (call : CT) (lf ro : Nat) : ∀ e h, Shaped 49 e → LeO (F67.PJ5 (F67.J5 call lf ro) e h) (execK Tryd.prog call lf ro (sub (codeOf Tryd.f67) [true, true, true]) e h (F67.KJ5 call lf ro)) := by
    rintro e h ⟨f, rfl⟩
    unfold F67.PJ5
    refine getK_le fun w0 g0 => ?_
    rw [EF_get (by decide)] at g0
    refine sliceK_le fun a81 l81 c81 z107 => ?_
    subst z107
    refine getK_le fun w1 g1 => ?_
    rw [EF_get (by decide)] at g1
    refine intK_le fun n82 z108 => ?_
    subst z108
    refine getK_le fun w2 g2 => ?_
    rw [EF_get (by decide)] at g2
    refine intK_le fun n83 z109 => ?_
    subst z109
    have hr := F67.RJ5 call lf ro f a81 l81 c81 n82 n83 h
    rw [updF_same g0, updF_same g1, updF_same g2] at hr
    exact cut_le (H := (F67.Ht call lf ro)) (J := (F67.Ut call lf ro)) (F67.CKJ5 call lf ro) ⟨(hd_free rfl), ⟨⟨(hd_free rfl), (fun e h hs => F67.B7 call lf ro  lf e h hs)⟩, (hd_free rfl)⟩⟩ hr

theorem F67.RJ3 (call : CT) (lf ro : Nat) (f : Nat → Option Value) (a5 : Option Addr) (l5 : Nat) (c5 : Nat) (n6 : Int) (n7 : Int) (h8 : Heap) :
    execH Tryd.prog call ro (F67.Ht call lf ro) (F67.Ut call lf ro) (sub (codeOf Tryd.f67) [true, true]) (EF 49 (updF (updF (updF f 0 (some (.slice a5 l5 c5))) 1 (some (.int .i64 n6))) 2 (some (.int .i64 n7)))) h8 (F67.CJ3 call lf ro) = F67.J3 call lf ro a5 l5 c5 n6 n7 h8 := by kernel_rfl

theorem F67.CKJ3 (call : CT) (lf ro : Nat) : KLe 49 (F67.CJ3 call lf ro) (F67.KJ3 call lf ro) :=
  (KLe.refl _)

theorem F67.BJ3 (call : CT) (lf ro : Nat) : ∀ e h, Shaped 49 e → LeO (F67.PJ3 (F67.J3 call lf ro) e h) (execK Tryd.prog call lf ro (sub (codeOf Tryd.f67) [true, true]) e h (F67.KJ3 call lf ro)) := by
    rintro e h ⟨f, rfl⟩
    unfold F67.PJ3
    refine getK_le fun w0 g0 => ?_
    rw [EF_get (by decide)] at g0
    refine sliceK_le fun a84 l84 c84 z113 => ?_
    subst z113
    refine getK_le fun w1 g1 => ?_
    rw [EF_get (by decide)] at g1
    refine intK_le fun n85 z114 => ?_
    subst z114
    refine getK_le fun w2 g2 => ?_
    rw [EF_get (by decide)] at g2
    refine intK_le fun n86 z115 => ?_
    subst z115
    have hr := F67.RJ3 call lf ro f a84 l84 c84 n85 n86 h
    rw [updF_same g0, updF_same g1, updF_same g2] at hr
    exact cut_le (H := (F67.Ht call lf ro)) (J := (F67.Ut call lf ro)) (F67.CKJ3 call lf ro) ⟨(hd_free rfl), (fun e h hs => F67.BJ5 call lf ro  e h hs)⟩ hr

theorem F67.le (call : CT) (lf ro : Nat) (ax0 : Option Addr) (lx0 : Nat) (cx0 : Nat) (x1 : Int) (x2 : Int) (h : Heap) : LeO (F67.t call lf ro ax0 lx0 cx0 x1 x2 h) (bodyK Tryd.prog call lf ro Tryd.f67 [.slice ax0 lx0 cx0, .int .i64 x1, .int .i64 x2] h) :=
  body_le (c := codeOf Tryd.f67) (H := F67.Ht call lf ro) (J := F67.Ut call lf ro) rfl (Nat.le_of_ble_eq_true rfl) ⟨(hd_free rfl), ⟨(hd_free rfl), (fun e h hs => F67.BJ3 call lf ro  e h hs)⟩⟩ (by kernel_rfl)

/-! ### barscan/barscanref27.over: function 42 -/

noncomputable def F42.J4 (call : CT) (lf ro : Nat) (kb2 : (Option Addr) → Nat → Nat → Int → Int → Heap → Out) (a5 : Option Addr) (l5 : Nat) (c5 : Nat) (n6 : Int) (n7 : Int) (h8 : Heap) : Out :=
  bindO (idxO Tryd.prog 24 (.slice a5 l5 c5) (.int .i64 n7) h8) fun v44 h45 =>
  bindO (loadO Tryd.prog 4 v44 h45) fun v46 h47 =>
  boolK v46 fun b48 =>
  ifK (!b48) (Out.ok (.bool false) h47) (kb2 a5 l5 c5 n6 (IntKind.i64.wrap (n7 + 1)) h47)

noncomputable def F42.PJ4 (kb : (Option Addr) → Nat → Nat → Int → Int → Heap → Out) (e : Env) (h : Heap) : Out :=
  getK (e.get 0) fun w0 =>
  sliceK w0 fun a49 l49 c49 =>
  getK (e.get 1) fun w1 =>
  intK .i64 w1 fun n50 =>
  getK (e.get 5) fun w5 =>
  intK .i64 w5 fun n51 =>
  kb a49 l49 c49 n50 n51 h

noncomputable def F42.L2 (call : CT) (lf ro : Nat) : Nat → (Option Addr) → Nat → Nat → Int → Int → Heap → Out
  | 0, _, _, _, _, _, _ => .fail
  | n + 1, a1, l1, c1, n2, n3, h4 =>
  ifK (decide (n3 < (l1 : Int))) (F42.J4 call lf ro (F42.L2 call lf ro n) a1 l1 c1 n2 n3 h4) (Out.ok (.bool (decide (IntKind.i64.wrap ((l1 : Int) - n2) < 12))) h4)

noncomputable def F42.P2 (kb : (Option Addr) → Nat → Nat → Int → Int → Heap → Out) (e : Env) (h : Heap) : Out :=
  getK (e.get 0) fun w0 =>
  sliceK w0 fun a52 l52 c52 =>
  getK (e.get 1) fun w1 =>
  intK .i64 w1 fun n53 =>
  getK (e.get 5) fun w5 =>
  intK .i64 w5 fun n54 =>
  kb a52 l52 c52 n53 n54 h

noncomputable def F42.t (call : CT) (lf ro : Nat) (ax0 : Option Addr) (lx0 : Nat) (cx0 : Nat) (x1 : Int) (h : Heap) : Out :=
  F42.L2 call lf ro lf ax0 lx0 cx0 x1 x1 h

noncomputable def F42.Ht (call : CT) (lf ro : Nat) (i : Nat) (e : Env) (h : Heap) : Out := ifK (i == 2) (F42.P2 (F42.L2 call lf ro lf) e h) (.fail)
noncomputable def F42.Ut (call : CT) (lf ro : Nat) (i : Nat) : Option (Env → Heap → Out) := none

noncomputable def F42.H2 (call : CT) (lf ro : Nat) (kb2 : (Option Addr) → Nat → Nat → Int → Int → Heap → Out) (i : Nat) (e : Env) (h : Heap) : Out := ifK (i == 2) (F42.P2 (F42.L2 call lf ro lf) e h) (.fail)
noncomputable def F42.U2 (call : CT) (lf ro : Nat) (kb2 : (Option Addr) → Nat → Nat → Int → Int → Heap → Out) (i : Nat) : Option (Env → Heap → Out) := ifJ (i == 4) (some (F42.PJ4 (F42.J4 call lf ro kb2))) (none)

noncomputable def F42.C2 (call : CT) (lf ro : Nat) : COut → Out := blockK 0 (seqH Tryd.prog call ro (F42.Ht call lf ro) (F42.Ut call lf ro) (sub (codeOf Tryd.f42) [true, true]) (endK Tryd.prog Tryd.f42))

noncomputable def F42.K2 (call : CT) (lf ro : Nat) : COut → Out := blockK 0 (seqK Tryd.prog call lf ro (sub (codeOf Tryd.f42) [true, true]) (endK Tryd.prog Tryd.f42))

noncomputable def F42.CJ4 (call : CT) (lf ro : Nat) (kb2 : (Option Addr) → Nat → Nat → Int → Int → Heap → Out) : COut → Out := outK (F42.P2 kb2) (fun i e h => F42.C2 call lf ro (.exit i e h)) (fun e h => F42.C2 call lf ro (.ret e h))

noncomputable def F42.KJ4 (call : CT) (lf ro : Nat) (kb2 : (Option Addr) → Nat → Nat → Int → Int → Heap → Out) : COut → Out := outK (F42.P2 kb2) (fun i e h => F42.C2 call lf ro (.exit i e h)) (fun e h => F42.C2 call lf ro (.ret e h))

theorem F42.RJ4 (call : CT) (lf ro : Nat) (kb2 : (Option Addr) → Nat → Nat → Int → Int → Heap → Out) (f : Nat → Option Value) (a5 : Option Addr) (l5 : Nat) (c5 : Nat) (n6 : Int) (n7 : Int) (h8 : Heap) :
    execH Tryd.prog call ro (F42.H2 call lf ro kb2) (F42.U2 call lf ro kb2) (sub (codeOf Tryd.f42) [true, false, true, false, false, true]) (EF 23 (updF (updF (updF f 0 (some (.slice a5 l5 c5))) 1 (some (.int .i64 n6))) 5 (some (.int .i64 n7)))) h8 (F42.CJ4 call lf ro kb2) = F42.J4 call lf ro kb2 a5 l5 c5 n6 n7 h8 := by kernel_rfl

theorem F42.CKJ4 (call : CT) (lf ro : Nat) (kb2 : (Option Addr) → Nat → Nat → Int → Int → Heap → Out) : KLe 23 (F42.CJ4 call lf ro kb2) (F42.KJ4 call lf ro kb2) :=
  (KLe.refl _)

theorem F42.BJ4 (call : CT) (lf ro : Nat) (kb2 : (Option Addr) → Nat → Nat → Int → Int → Heap → Out) : ∀ e h, Shaped 23 e → LeO (F42.PJ4 (F42.J4 call lf ro kb2) e h) (execK Tryd.prog call lf ro (sub (codeOf Tryd.f42) [true, false, true, false, false, true]) e h (F42.KJ4 call lf ro kb2)) := by
    rintro e h ⟨f, rfl⟩
    unfold F42.PJ4
    refine getK_le fun w0 g0 => ?_
    rw [EF_get (by decide)] at g0
    refine sliceK_le fun a49 l49 c49 z55 => ?_
    subst z55
    refine getK_le fun w1 g1 => ?_
    rw [EF_get (by decide)] at g1
    refine intK_le fun n50 z56 => ?_
    subst z56
    refine getK_le fun w5 g5 => ?_
    rw [EF_get (by decide)] at g5
    refine intK_le fun n51 z57 => ?_
    subst z57
    have hr := F42.RJ4 call lf ro kb2 f a49 l49 c49 n50 n51 h
    rw [updF_same g0, updF_same g1, updF_same g5] at hr
    exact cut_le (H := (F42.H2 call lf ro kb2)) (J := (F42.U2 call lf ro kb2)) (F42.CKJ4 call lf ro kb2) (hd_free rfl) hr

theorem F42.R2 (call : CT) (lf ro : Nat) (n : Nat) (f : Nat → Option Value) (a1 : Option Addr) (l1 : Nat) (c1 : Nat) (n2 : Int) (n3 : Int) (h4 : Heap) :
    execH Tryd.prog call ro (F42.H2 call lf ro (F42.L2 call lf ro n)) (F42.U2 call lf ro (F42.L2 call lf ro n)) (sub (codeOf Tryd.f42) [true, false, true, false, false]) (EF 23 (updF (updF (updF f 0 (some (.slice a1 l1 c1))) 1 (some (.int .i64 n2))) 5 (some (.int .i64 n3)))) h4 (outK (F42.P2 (F42.L2 call lf ro n)) (fun i e h => F42.C2 call lf ro (.exit i e h)) (fun e h => F42.C2 call lf ro (.ret e h))) = F42.L2 call lf ro (n + 1) a1 l1 c1 n2 n3 h4 := by kernel_rfl

theorem F42.CK2 (call : CT) (lf ro : Nat) : KLe 23 (F42.C2 call lf ro) (F42.K2 call lf ro) :=
  (KLe.block (KLe.seq (H := (F42.Ht call lf ro)) (J := (F42.Ut call lf ro)) (KLe.refl _) (hd_free rfl)))

theorem F42.B2 (call : CT) (lf ro : Nat) : ∀ n e h, Shaped 23 e → LeO (F42.P2 (F42.L2 call lf ro n) e h) (loopK (execK Tryd.prog call lf ro (sub (codeOf Tryd.f42) [true, false, true, false, false])) n e h (F42.K2 call lf ro)) := by
  refine loop_le (fun e h k k' hs hk => execK_mono _ e h k k' hs hk) (kb := fun n => F42.P2 (F42.L2 call lf ro n)) (kx := fun i e h => F42.C2 call lf ro (.exit i e h)) (kr := fun e h => F42.C2 call lf ro (.ret e h)) ?_ ?_ (fun i e h hs => (F42.CK2 call lf ro).exit i e h hs) (fun e h hs => (F42.CK2 call lf ro).ret e h hs)
  · rintro e h ⟨f, rfl⟩
    unfold F42.P2
    refine getK_le fun w0 g0 => ?_
    rw [EF_get (by decide)] at g0
    refine sliceK_le fun a52 l52 c52 z61 => ?_
    subst z61
    refine getK_le fun w1 g1 => ?_
    rw [EF_get (by decide)] at g1
    refine intK_le fun n53 z62 => ?_
    subst z62
    refine getK_le fun w5 g5 => ?_
    rw [EF_get (by decide)] at g5
    refine intK_le fun n54 z63 => ?_
    subst z63
    exact LeO.refl _
  · rintro n e h ⟨f, rfl⟩
    unfold F42.P2
    refine getK_le fun w0 g0 => ?_
    rw [EF_get (by decide)] at g0
    refine sliceK_le fun a52 l52 c52 z64 => ?_
    subst z64
    refine getK_le fun w1 g1 => ?_
    rw [EF_get (by decide)] at g1
    refine intK_le fun n53 z65 => ?_
    subst z65
    refine getK_le fun w5 g5 => ?_
    rw [EF_get (by decide)] at g5
    refine intK_le fun n54 z66 => ?_
    subst z66
    have hr := F42.R2 call lf ro n f a52 l52 c52 n53 n54 h
    rw [updF_same g0, updF_same g1, updF_same g5] at hr
    exact round_le (H := (F42.H2 call lf ro (F42.L2 call lf ro n))) (J := (F42.U2 call lf ro (F42.L2 call lf ro n))) ⟨(hd_free rfl), (fun e h hs => F42.BJ4 call lf ro (F42.L2 call lf ro n) e h hs)⟩ hr

theorem F42.le (call : CT) (lf ro : Nat) (ax0 : Option Addr) (lx0 : Nat) (cx0 : Nat) (x1 : Int) (h : Heap) : LeO (F42.t call lf ro ax0 lx0 cx0 x1 h) (bodyK Tryd.prog call lf ro Tryd.f42 [.slice ax0 lx0 cx0, .int .i64 x1] h) :=
  body_le (c := codeOf Tryd.f42) (H := F42.Ht call lf ro) (J := F42.Ut call lf ro) rfl (Nat.le_of_ble_eq_true rfl) ⟨(hd_free rfl), ⟨⟨(hd_free rfl), (fun e h hs => F42.B2 call lf ro  lf e h hs)⟩, (hd_free rfl)⟩⟩ (by kernel_rfl)

/-! ### barscan/barscanref27.binary: function 68 -/

noncomputable def F68.J14 (call : CT) (lf ro : Nat) (kb12 : (Option Addr) → Nat → Nat → Nat → Nat → Nat → Nat → Int → Int → Heap → Out) (a173 : Option Addr) (l173 : Nat) (c173 : Nat) (p174 : Nat) (o174 : Nat) (p175 : Nat) (o175 : Nat) (n176 : Int) (n177 : Int) (h178 : Heap) : Out :=
  bindO (loadO Tryd.prog 3 (.pointer (some ⟨p174, o174 + 0, none⟩)) h178) fun v497 h498 =>
  intK .i64 v497 fun n499 =>
  bindO (call ro 67 [.slice a173 l173 c173, .int .i64 n499, .int .i64 8] h498) fun v500 h501 =>
  tupK v500 fun q502 =>
  consK q502 fun x503 q504 =>
  intK .i64 x503 fun n505 =>
  consK q504 fun x506 q507 =>
  intK .i64 x506 fun n508 =>
  nilK q507 <|
  ifK (n508 != 0) (bindO (loadO Tryd.prog 84 (.pointer (some ⟨p174, o174, none⟩)) h501) fun v551 h552 =>
  aggK v551 fun q553 =>
  consK q553 fun x554 q555 =>
  intK .i64 x554 fun n556 =>
  consK q555 fun x557 q558 =>
  intK .i64 x557 fun n559 =>
  consK q558 fun x560 q561 =>
  sliceK x560 fun a562 l562 c562 =>
  nilK q561 <|
  bindO (storeO Tryd.prog ro 84 (.pointer (some ⟨p175, o175, none⟩)) (.agg #[.int .i64 n556, .int .i64 n559, .slice a562 l562 c562]) h552) fun v563 h564 =>
  resOf Tryd.prog Tryd.f68 (EF 70 (updF (updF (fun _ => none) 4 (some (.pointer (some ⟨p175, o175, none⟩)))) 5 (some (.int .i64 10)))) h564) (bindO (loadO Tryd.prog 3 (.pointer (some ⟨p174, o174 + 0, none⟩)) h501) fun v570 h571 =>
  intK .i64 v570 fun n572 =>
  bindO (storeO Tryd.prog ro 3 (.pointer (some ⟨p174, o174 + 0, none⟩)) (.int .i64 (IntKind.i64.wrap (n572 + 8))) h571) fun v573 h574 =>
  bindO (loadO Tryd.prog 22 (.pointer (some ⟨p174, o174 + 2, none⟩)) h574) fun v584 h585 =>
  sliceK v584 fun a586 l586 c586 =>
  pushJ h585 1 [.int .u8 (IntKind.u8.wrap n505)] fun h587 =>
  bindO (appO Tryd.prog ro 22 22 (.slice a586 l586 c586) (.slice (some ⟨h585.next, 0, none⟩) 1 1) h587) fun v588 h589 =>
  sliceK v588 fun a590 l590 c590 =>
  bindO (storeO Tryd.prog ro 22 (.pointer (some ⟨p174, o174 + 2, none⟩)) (.slice a590 l590 c590) h589) fun v591 h592 =>
  kb12 a173 l173 c173 p174 o174 p175 o175 n176 (IntKind.i64.wrap (n177 + 1)) h592)

noncomputable def F68.PJ14 (kb : (Option Addr) → Nat → Nat → Nat → Nat → Nat → Nat → Int → Int → Heap → Out) (e : Env) (h : Heap) : Out :=
  getK (e.get 0) fun w0 =>
  sliceK w0 fun a593 l593 c593 =>
  getK (e.get 3) fun w3 =>
  ptrK w3 fun p594 o594 =>
  getK (e.get 4) fun w4 =>
  ptrK w4 fun p595 o595 =>
  getK (e.get 6) fun w6 =>
  intK .i64 w6 fun n596 =>
  getK (e.get 8) fun w8 =>
  intK .i64 w8 fun n597 =>
  kb a593 l593 c593 p594 o594 p595 o595 n596 n597 h

noncomputable def F68.L12 (call : CT) (lf ro : Nat) : Nat → (Option Addr) → Nat → Nat → Nat → Nat → Nat → Nat → Int → Int → Heap → Out
  | 0, _, _, _, _, _, _, _, _, _, _ => .fail
  | n + 1, a167, l167, c167, p168, o168, p169, o169, n170, n171, h172 =>
  ifK (decide (n171 < n170)) (F68.J14 call lf ro (F68.L12 call lf ro n) a167 l167 c167 p168 o168 p169 o169 n170 n171 h172) (bindO (loadO Tryd.prog 84 (.pointer (some ⟨p168, o168, none⟩)) h172) fun v612 h613 =>
  aggK v612 fun q614 =>
  consK q614 fun x615 q616 =>
  intK .i64 x615 fun n617 =>
  consK q616 fun x618 q619 =>
  intK .i64 x618 fun n620 =>
  consK q619 fun x621 q622 =>
  sliceK x621 fun a623 l623 c623 =>
  nilK q622 <|
  bindO (storeO Tryd.prog ro 84 (.pointer (some ⟨p169, o169, none⟩)) (.agg #[.int .i64 n617, .int .i64 n620, .slice a623 l623 c623]) h613) fun v624 h625 =>
  resOf Tryd.prog Tryd.f68 (EF 70 (updF (updF (fun _ => none) 4 (some (.pointer (some ⟨p169, o169, none⟩)))) 5 (some (.int .i64 0)))) h625)

noncomputable def F68.P12 (kb : (Option Addr) → Nat → Nat → Nat → Nat → Nat → Nat → Int → Int → Heap → Out) (e : Env) (h : Heap) : Out :=
  getK (e.get 0) fun w0 =>
  sliceK w0 fun a626 l626 c626 =>
  getK (e.get 3) fun w3 =>
  ptrK w3 fun p627 o627 =>
  getK (e.get 4) fun w4 =>
  ptrK w4 fun p628 o628 =>
  getK (e.get 6) fun w6 =>
  intK .i64 w6 fun n629 =>
  getK (e.get 8) fun w8 =>
  intK .i64 w8 fun n630 =>
  kb a626 l626 c626 p627 o627 p628 o628 n629 n630 h

noncomputable def F68.J11 (call : CT) (lf ro : Nat) (a162 : Option Addr) (l162 : Nat) (c162 : Nat) (p163 : Nat) (o163 : Nat) (p164 : Nat) (o164 : Nat) (n165 : Int) (h166 : Heap) : Out :=
  F68.L12 call lf ro lf a162 l162 c162 p163 o163 p164 o164 n165 0 h166

noncomputable def F68.PJ11 (kb : (Option Addr) → Nat → Nat → Nat → Nat → Nat → Nat → Int → Heap → Out) (e : Env) (h : Heap) : Out :=
  getK (e.get 0) fun w0 =>
  sliceK w0 fun a631 l631 c631 =>
  getK (e.get 3) fun w3 =>
  ptrK w3 fun p632 o632 =>
  getK (e.get 4) fun w4 =>
  ptrK w4 fun p633 o633 =>
  getK (e.get 6) fun w6 =>
  intK .i64 w6 fun n634 =>
  kb a631 l631 c631 p632 o632 p633 o633 n634 h

noncomputable def F68.J4 (call : CT) (lf ro : Nat) (a57 : Option Addr) (l57 : Nat) (c57 : Nat) (p58 : Nat) (o58 : Nat) (p59 : Nat) (o59 : Nat) (n60 : Int) (h61 : Heap) : Out :=
  bindO (loadO Tryd.prog 3 (.pointer (some ⟨p58, o58 + 0, none⟩)) h61) fun v67 h68 =>
  intK .i64 v67 fun n69 =>
  bindO (storeO Tryd.prog ro 3 (.pointer (some ⟨p58, o58 + 0, none⟩)) (.int .i64 (IntKind.i64.wrap (n69 + 5))) h68) fun v70 h71 =>
  ifK (n60 == 0) (bindO (loadO Tryd.prog 3 (.pointer (some ⟨p58, o58 + 0, none⟩)) h71) fun v84 h85 =>
  intK .i64 v84 fun n86 =>
  bindO (call ro 67 [.slice a57 l57 c57, .int .i64 n86, .int .i64 11] h85) fun v87 h88 =>
  tupK v87 fun q89 =>
  consK q89 fun x90 q91 =>
  intK .i64 x90 fun n92 =>
  consK q91 fun x93 q94 =>
  intK .i64 x93 fun n95 =>
  nilK q94 <|
  ifK (n95 != 0) (bindO (loadO Tryd.prog 84 (.pointer (some ⟨p58, o58, none⟩)) h88) fun v138 h139 =>
  aggK v138 fun q140 =>
  consK q140 fun x141 q142 =>
  intK .i64 x141 fun n143 =>
  consK q142 fun x144 q145 =>
  intK .i64 x144 fun n146 =>
  consK q145 fun x147 q148 =>
  sliceK x147 fun a149 l149 c149 =>
  nilK q148 <|
  bindO (storeO Tryd.prog ro 84 (.pointer (some ⟨p59, o59, none⟩)) (.agg #[.int .i64 n143, .int .i64 n146, .slice a149 l149 c149]) h139) fun v150 h151 =>
  resOf Tryd.prog Tryd.f68 (EF 70 (updF (updF (fun _ => none) 4 (some (.pointer (some ⟨p59, o59, none⟩)))) 5 (some (.int .i64 10)))) h151) (bindO (loadO Tryd.prog 3 (.pointer (some ⟨p58, o58 + 0, none⟩)) h88) fun v157 h158 =>
  intK .i64 v157 fun n159 =>
  bindO (storeO Tryd.prog ro 3 (.pointer (some ⟨p58, o58 + 0, none⟩)) (.int .i64 (IntKind.i64.wrap (n159 + 11))) h158) fun v160 h161 =>
  F68.J11 call lf ro a57 l57 c57 p58 o58 p59 o59 (IntKind.i64.wrap (n92 + 31)) h161)) (F68.J11 call lf ro a57 l57 c57 p58 o58 p59 o59 n60 h71)

noncomputable def F68.PJ4 (kb : (Option Addr) → Nat → Nat → Nat → Nat → Nat → Nat → Int → Heap → Out) (e : Env) (h : Heap) : Out :=
  getK (e.get 0) fun w0 =>
  sliceK w0 fun a635 l635 c635 =>
  getK (e.get 3) fun w3 =>
  ptrK w3 fun p636 o636 =>
  getK (e.get 4) fun w4 =>
  ptrK w4 fun p637 o637 =>
  getK (e.get 6) fun w6 =>
  intK .i64 w6 fun n638 =>
  kb a635 l635 c635 p636 o636 p637 o637 n638 h

noncomputable def F68.t (call : CT) (lf ro : Nat) (ax0 : Option Addr) (lx0 : Nat) (cx0 : Nat) (x1_0 : Int) (x1_1 : Int) (ax1_2 : Option Addr) (lx1_2 : Nat) (cx1_2 : Nat) (h : Heap) : Out :=
  pushJ h 1 [.int .i64 x1_0, .int .i64 x1_1, .slice ax1_2 lx1_2 cx1_2] fun h3 =>
  pushJ h3 1 [.int .i64 0, .int .i64 0, .slice none 0 0] fun h4 =>
  bindO (loadO Tryd.prog 3 (.pointer (some ⟨h.next, 0, none⟩)) h4) fun v17 h18 =>
  intK .i64 v17 fun n19 =>
  bindO (call ro 67 [.slice ax0 lx0 cx0, .int .i64 n19, .int .i64 5] h18) fun v20 h21 =>
  tupK v20 fun q22 =>
  consK q22 fun x23 q24 =>
  intK .i64 x23 fun n25 =>
  consK q24 fun x26 q27 =>
  intK .i64 x26 fun n28 =>
  nilK q27 <|
  ifK (n28 != 0) (bindO (loadO Tryd.prog 84 (.pointer (some ⟨h.next, 0, none⟩)) h21) fun v43 h44 =>
  aggK v43 fun q45 =>
  consK q45 fun x46 q47 =>
  intK .i64 x46 fun n48 =>
  consK q47 fun x49 q50 =>
  intK .i64 x49 fun n51 =>
  consK q50 fun x52 q53 =>
  sliceK x52 fun a54 l54 c54 =>
  nilK q53 <|
  bindO (storeO Tryd.prog ro 84 (.pointer (some ⟨h3.next, 0, none⟩)) (.agg #[.int .i64 n48, .int .i64 n51, .slice a54 l54 c54]) h44) fun v55 h56 =>
  resOf Tryd.prog Tryd.f68 (EF 70 (updF (updF (fun _ => none) 4 (some (.pointer (some ⟨h3.next, 0, none⟩)))) 5 (some (.int .i64 10)))) h56) (F68.J4 call lf ro ax0 lx0 cx0 h.next 0 h3.next 0 n25 h21)

noncomputable def F68.Ht (call : CT) (lf ro : Nat) (i : Nat) (e : Env) (h : Heap) : Out := ifK (i == 12) (F68.P12 (F68.L12 call lf ro lf) e h) (.fail)
noncomputable def F68.Ut (call : CT) (lf ro : Nat) (i : Nat) : Option (Env → Heap → Out) := ifJ (i == 11) (some (F68.PJ11 (F68.J11 call lf ro))) (ifJ (i == 4) (some (F68.PJ4 (F68.J4 call lf ro))) (none))

noncomputable def F68.H12 (call : CT) (lf ro : Nat) (kb12 : (Option Addr) → Nat → Nat → Nat → Nat → Nat → Nat → Int → Int → Heap → Out) (i : Nat) (e : Env) (h : Heap) : Out := ifK (i == 12) (F68.P12 (F68.L12 call lf ro lf) e h) (.fail)
noncomputable def F68.U12 (call : CT) (lf ro : Nat) (kb12 : (Option Addr) → Nat → Nat → Nat → Nat → Nat → Nat → Int → Int → Heap → Out) (i : Nat) : Option (Env → Heap → Out) := ifJ (i == 14) (some (F68.PJ14 (F68.J14 call lf ro kb12))) (ifJ (i == 11) (some (F68.PJ11 (F68.J11 call lf ro))) (ifJ (i == 4) (some (F68.PJ4 (F68.J4 call lf ro))) (none)))

noncomputable def F68.C12 (call : CT) (lf ro : Nat) : COut → Out := blockK 0 (seqH Tryd.prog call ro (F68.Ht call lf ro) (F68.Ut call lf ro) (sub (codeOf Tryd.f68) [true, true, true, true, true, true]) (endK Tryd.prog Tryd.f68))

noncomputable def F68.K12 (call : CT) (lf ro : Nat) : COut → Out := blockK 0 (seqK Tryd.prog call lf ro (sub (codeOf Tryd.f68) [true, true, true, true, true, true]) (endK Tryd.prog Tryd.f68))

noncomputable def F68.CJ11 (call : CT) (lf ro : Nat) : COut → Out := endK Tryd.prog Tryd.f68

noncomputable def F68.KJ11 (call : CT) (lf ro : Nat) : COut → Out := endK Tryd.prog Tryd.f68

noncomputable def F68.CJ4 (call : CT) (lf ro : Nat) : COut → Out := endK Tryd.prog Tryd.f68

noncomputable def F68.KJ4 (call : CT) (lf ro : Nat) : COut → Out := endK Tryd.prog Tryd.f68

noncomputable def F68.CJ14 (call : CT) (lf ro : Nat) (kb12 : (Option Addr) → Nat → Nat → Nat → Nat → Nat → Nat → Int → Int → Heap → Out) : COut → Out := outK (F68.P12 kb12) (fun i e h => F68.C12 call lf ro (.exit i e h)) (fun e h => F68.C12 call lf ro (.ret e h))

noncomputable def F68.KJ14 (call : CT) (lf ro : Nat) (kb12 : (Option Addr) → Nat → Nat → Nat → Nat → Nat → Nat → Int → Int → Heap → Out) : COut → Out := outK (F68.P12 kb12) (fun i e h => F68.C12 call lf ro (.exit i e h)) (fun e h => F68.C12 call lf ro (.ret e h))

theorem F68.RJ14 (call : CT) (lf ro : Nat) (kb12 : (Option Addr) → Nat → Nat → Nat → Nat → Nat → Nat → Int → Int → Heap → Out) (f : Nat → Option Value) (a173 : Option Addr) (l173 : Nat) (c173 : Nat) (p174 : Nat) (o174 : Nat) (p175 : Nat) (o175 : Nat) (n176 : Int) (n177 : Int) (h178 : Heap) :
    execH Tryd.prog call ro (F68.H12 call lf ro kb12) (F68.U12 call lf ro kb12) (sub (codeOf Tryd.f68) [true, true, true, true, true, false, true, false, false, true]) (EF 70 (updF (updF (updF (updF (updF f 0 (some (.slice a173 l173 c173))) 3 (some (.pointer (some ⟨p174, o174, none⟩)))) 4 (some (.pointer (some ⟨p175, o175, none⟩)))) 6 (some (.int .i64 n176))) 8 (some (.int .i64 n177)))) h178 (F68.CJ14 call lf ro kb12) = F68.J14 call lf ro kb12 a173 l173 c173 p174 o174 p175 o175 n176 n177 h178 := by kernel_rfl

theorem F68.CKJ14 (call : CT) (lf ro : Nat) (kb12 : (Option Addr) → Nat → Nat → Nat → Nat → Nat → Nat → Int → Int → Heap → Out) : KLe 70 (F68.CJ14 call lf ro kb12) (F68.KJ14 call lf ro kb12) :=
  (KLe.refl _)

theorem F68.BJ14 (call : CT) (lf ro : Nat) (kb12 : (Option Addr) → Nat → Nat → Nat → Nat → Nat → Nat → Int → Int → Heap → Out) : ∀ e h, Shaped 70 e → LeO (F68.PJ14 (F68.J14 call lf ro kb12) e h) (execK Tryd.prog call lf ro (sub (codeOf Tryd.f68) [true, true, true, true, true, false, true, false, false, true]) e h (F68.KJ14 call lf ro kb12)) := by
    rintro e h ⟨f, rfl⟩
    unfold F68.PJ14
    refine getK_le fun w0 g0 => ?_
    rw [EF_get (by decide)] at g0
    refine sliceK_le fun a593 l593 c593 z639 => ?_
    subst z639
    refine getK_le fun w3 g3 => ?_
    rw [EF_get (by decide)] at g3
    refine ptrK_le fun p594 o594 z640 => ?_
    subst z640
    refine getK_le fun w4 g4 => ?_
    rw [EF_get (by decide)] at g4
    refine ptrK_le fun p595 o595 z641 => ?_
    subst z641
    refine getK_le fun w6 g6 => ?_
    rw [EF_get (by decide)] at g6
    refine intK_le fun n596 z642 => ?_
    subst z642
    refine getK_le fun w8 g8 => ?_
    rw [EF_get (by decide)] at g8
    refine intK_le fun n597 z643 => ?_
    subst z643
    have hr := F68.RJ14 call lf ro kb12 f a593 l593 c593 p594 o594 p595 o595 n596 n597 h
    rw [updF_same g0, updF_same g3, updF_same g4, updF_same g6, updF_same g8] at hr
    exact cut_le (H := (F68.H12 call lf ro kb12)) (J := (F68.U12 call lf ro kb12)) (F68.CKJ14 call lf ro kb12) (hd_free rfl) hr

theorem F68.R12 (call : CT) (lf ro : Nat) (n : Nat) (f : Nat → Option Value) (a167 : Option Addr) (l167 : Nat) (c167 : Nat) (p168 : Nat) (o168 : Nat) (p169 : Nat) (o169 : Nat) (n170 : Int) (n171 : Int) (h172 : Heap) :
    execH Tryd.prog call ro (F68.H12 call lf ro (F68.L12 call lf ro n)) (F68.U12 call lf ro (F68.L12 call lf ro n)) (sub (codeOf Tryd.f68) [true, true, true, true, true, false, true, false, false]) (EF 70 (updF (updF (updF (updF (updF f 0 (some (.slice a167 l167 c167))) 3 (some (.pointer (some ⟨p168, o168, none⟩)))) 4 (some (.pointer (some ⟨p169, o169, none⟩)))) 6 (some (.int .i64 n170))) 8 (some (.int .i64 n171)))) h172 (outK (F68.P12 (F68.L12 call lf ro n)) (fun i e h => F68.C12 call lf ro (.exit i e h)) (fun e h => F68.C12 call lf ro (.ret e h))) = F68.L12 call lf ro (n + 1) a167 l167 c167 p168 o168 p169 o169 n170 n171 h172 := by kernel_rfl

theorem F68.CK12 (call : CT) (lf ro : Nat) : KLe 70 (F68.C12 call lf ro) (F68.K12 call lf ro) :=
  (KLe.block (KLe.seq (H := (F68.Ht call lf ro)) (J := (F68.Ut call lf ro)) (KLe.refl _) (hd_free rfl)))

theorem F68.B12 (call : CT) (lf ro : Nat) : ∀ n e h, Shaped 70 e → LeO (F68.P12 (F68.L12 call lf ro n) e h) (loopK (execK Tryd.prog call lf ro (sub (codeOf Tryd.f68) [true, true, true, true, true, false, true, false, false])) n e h (F68.K12 call lf ro)) := by
  refine loop_le (fun e h k k' hs hk => execK_mono _ e h k k' hs hk) (kb := fun n => F68.P12 (F68.L12 call lf ro n)) (kx := fun i e h => F68.C12 call lf ro (.exit i e h)) (kr := fun e h => F68.C12 call lf ro (.ret e h)) ?_ ?_ (fun i e h hs => (F68.CK12 call lf ro).exit i e h hs) (fun e h hs => (F68.CK12 call lf ro).ret e h hs)
  · rintro e h ⟨f, rfl⟩
    unfold F68.P12
    refine getK_le fun w0 g0 => ?_
    rw [EF_get (by decide)] at g0
    refine sliceK_le fun a626 l626 c626 z649 => ?_
    subst z649
    refine getK_le fun w3 g3 => ?_
    rw [EF_get (by decide)] at g3
    refine ptrK_le fun p627 o627 z650 => ?_
    subst z650
    refine getK_le fun w4 g4 => ?_
    rw [EF_get (by decide)] at g4
    refine ptrK_le fun p628 o628 z651 => ?_
    subst z651
    refine getK_le fun w6 g6 => ?_
    rw [EF_get (by decide)] at g6
    refine intK_le fun n629 z652 => ?_
    subst z652
    refine getK_le fun w8 g8 => ?_
    rw [EF_get (by decide)] at g8
    refine intK_le fun n630 z653 => ?_
    subst z653
    exact LeO.refl _
  · rintro n e h ⟨f, rfl⟩
    unfold F68.P12
    refine getK_le fun w0 g0 => ?_
    rw [EF_get (by decide)] at g0
    refine sliceK_le fun a626 l626 c626 z654 => ?_
    subst z654
    refine getK_le fun w3 g3 => ?_
    rw [EF_get (by decide)] at g3
    refine ptrK_le fun p627 o627 z655 => ?_
    subst z655
    refine getK_le fun w4 g4 => ?_
    rw [EF_get (by decide)] at g4
    refine ptrK_le fun p628 o628 z656 => ?_
    subst z656
    refine getK_le fun w6 g6 => ?_
    rw [EF_get (by decide)] at g6
    refine intK_le fun n629 z657 => ?_
    subst z657
    refine getK_le fun w8 g8 => ?_
    rw [EF_get (by decide)] at g8
    refine intK_le fun n630 z658 => ?_
    subst z658
    have hr := F68.R12 call lf ro n f a626 l626 c626 p627 o627 p628 o628 n629 n630 h
    rw [updF_same g0, updF_same g3, updF_same g4, updF_same g6, updF_same g8] at hr
    exact round_le (H := (F68.H12 call lf ro (F68.L12 call lf ro n))) (J := (F68.U12 call lf ro (F68.L12 call lf ro n))) ⟨(hd_free rfl), (fun e h hs => F68.BJ14 call lf ro (F68.L12 call lf ro n) e h hs)⟩ hr

theorem F68.RJ11 (call : CT) (lf ro : Nat) (f : Nat → Option Value) (a162 : Option Addr) (l162 : Nat) (c162 : Nat) (p163 : Nat) (o163 : Nat) (p164 : Nat) (o164 : Nat) (n165 : Int) (h166 : Heap) :
    execH Tryd.prog call ro (F68.Ht call lf ro) (F68.Ut call lf ro) (sub (codeOf Tryd.f68) [true, true, true, true, true]) (EF 70 (updF (updF (updF (updF f 0 (some (.slice a162 l162 c162))) 3 (some (.pointer (some ⟨p163, o163, none⟩)))) 4 (some (.pointer (some ⟨p164, o164, none⟩)))) 6 (some (.int .i64 n165)))) h166 (F68.CJ11 call lf ro) = F68.J11 call lf ro a162 l162 c162 p163 o163 p164 o164 n165 h166 := by kernel_rfl

theorem F68.CKJ11 (call : CT) (lf ro : Nat) : KLe 70 (F68.CJ11 call lf ro) (F68.KJ11 call lf ro) :=
  (KLe.refl _)

theorem F68.BJ11 (call : CT) (lf ro : Nat) : ∀ e h, Shaped 70 e → LeO (F68.PJ11 (F68.J11 call lf ro) e h) (execK Tryd.prog call lf ro (sub (codeOf Tryd.f68) [true, true, true, true, true]) e h (F68.KJ11 call lf ro)) := by
    rintro e h ⟨f, rfl⟩
    unfold F68.PJ11
    refine getK_le fun w0 g0 => ?_
    rw [EF_get (by decide)] at g0
    refine sliceK_le fun a631 l631 c631 z659 => ?_
    subst z659
    refine getK_le fun w3 g3 => ?_
    rw [EF_get (by decide)] at g3
    refine ptrK_le fun p632 o632 z660 => ?_
    subst z660
    refine getK_le fun w4 g4 => ?_
    rw [EF_get (by decide)] at g4
    refine ptrK_le fun p633 o633 z661 => ?_
    subst z661
    refine getK_le fun w6 g6 => ?_
    rw [EF_get (by decide)] at g6
    refine intK_le fun n634 z662 => ?_
    subst z662
    have hr := F68.RJ11 call lf ro f a631 l631 c631 p632 o632 p633 o633 n634 h
    rw [updF_same g0, updF_same g3, updF_same g4, updF_same g6] at hr
    exact cut_le (H := (F68.Ht call lf ro)) (J := (F68.Ut call lf ro)) (F68.CKJ11 call lf ro) ⟨⟨(hd_free rfl), (fun e h hs => F68.B12 call lf ro  lf e h hs)⟩, (hd_free rfl)⟩ hr

theorem F68.RJ4 (call : CT) (lf ro : Nat) (f : Nat → Option Value) (a57 : Option Addr) (l57 : Nat) (c57 : Nat) (p58 : Nat) (o58 : Nat) (p59 : Nat) (o59 : Nat) (n60 : Int) (h61 : Heap) :
    execH Tryd.prog call ro (F68.Ht call lf ro) (F68.Ut call lf ro) (sub (codeOf Tryd.f68) [true, true, true]) (EF 70 (updF (updF (updF (updF f 0 (some (.slice a57 l57 c57))) 3 (some (.pointer (some ⟨p58, o58, none⟩)))) 4 (some (.pointer (some ⟨p59, o59, none⟩)))) 6 (some (.int .i64 n60)))) h61 (F68.CJ4 call lf ro) = F68.J4 call lf ro a57 l57 c57 p58 o58 p59 o59 n60 h61 := by kernel_rfl

theorem F68.CKJ4 (call : CT) (lf ro : Nat) : KLe 70 (F68.CJ4 call lf ro) (F68.KJ4 call lf ro) :=
  (KLe.refl _)

theorem F68.BJ4 (call : CT) (lf ro : Nat) : ∀ e h, Shaped 70 e → LeO (F68.PJ4 (F68.J4 call lf ro) e h) (execK Tryd.prog call lf ro (sub (codeOf Tryd.f68) [true, true, true]) e h (F68.KJ4 call lf ro)) := by
    rintro e h ⟨f, rfl⟩
    unfold F68.PJ4
    refine getK_le fun w0 g0 => ?_
    rw [EF_get (by decide)] at g0
    refine sliceK_le fun a635 l635 c635 z667 => ?_
    subst z667
    refine getK_le fun w3 g3 => ?_
    rw [EF_get (by decide)] at g3
    refine ptrK_le fun p636 o636 z668 => ?_
    subst z668
    refine getK_le fun w4 g4 => ?_
    rw [EF_get (by decide)] at g4
    refine ptrK_le fun p637 o637 z669 => ?_
    subst z669
    refine getK_le fun w6 g6 => ?_
    rw [EF_get (by decide)] at g6
    refine intK_le fun n638 z670 => ?_
    subst z670
    have hr := F68.RJ4 call lf ro f a635 l635 c635 p636 o636 p637 o637 n638 h
    rw [updF_same g0, updF_same g3, updF_same g4, updF_same g6] at hr
    exact cut_le (H := (F68.Ht call lf ro)) (J := (F68.Ut call lf ro)) (F68.CKJ4 call lf ro) ⟨(hd_free rfl), ⟨(hd_free rfl), (fun e h hs => F68.BJ11 call lf ro  e h hs)⟩⟩ hr

theorem F68.le (call : CT) (lf ro : Nat) (ax0 : Option Addr) (lx0 : Nat) (cx0 : Nat) (x1_0 : Int) (x1_1 : Int) (ax1_2 : Option Addr) (lx1_2 : Nat) (cx1_2 : Nat) (h : Heap) : LeO (F68.t call lf ro ax0 lx0 cx0 x1_0 x1_1 ax1_2 lx1_2 cx1_2 h) (bodyK Tryd.prog call lf ro Tryd.f68 [.slice ax0 lx0 cx0, .agg #[.int .i64 x1_0, .int .i64 x1_1, .slice ax1_2 lx1_2 cx1_2]] h) :=
  body_le (c := codeOf Tryd.f68) (H := F68.Ht call lf ro) (J := F68.Ut call lf ro) rfl (Nat.le_of_ble_eq_true rfl) ⟨(hd_free rfl), ⟨(hd_free rfl), ⟨(hd_free rfl), (fun e h hs => F68.BJ4 call lf ro  e h hs)⟩⟩⟩ (by kernel_rfl)

/-! ### barscan/barscanref27.step: function 43 -/

noncomputable def F43.J15 (call : CT) (lf ro : Nat) (p200 : Nat) (o200 : Nat) (p201 : Nat) (o201 : Nat) (n202 : Int) (n203 : Int) (h204 : Heap) : Out :=
  letJ (fun (h389 : Heap) =>
  (bindO (loadO Tryd.prog 84 (.pointer (some ⟨p200, o200, none⟩)) h389) fun v405 h406 =>
  aggK v405 fun q407 =>
  consK q407 fun x408 q409 =>
  intK .i64 x408 fun n410 =>
  consK q409 fun x411 q412 =>
  intK .i64 x411 fun n413 =>
  consK q412 fun x414 q415 =>
  sliceK x414 fun a416 l416 c416 =>
  nilK q415 <|
  bindO (storeO Tryd.prog ro 84 (.pointer (some ⟨p201, o201, none⟩)) (.agg #[.int .i64 n410, .int .i64 n413, .slice a416 l416 c416]) h406) fun v417 h418 =>
  resOf Tryd.prog Tryd.f43 (EF 99 (updF (updF (fun _ => none) 4 (some (.pointer (some ⟨p201, o201, none⟩)))) 5 (some (.int .i64 0)))) h418)) fun j390 =>
  bindO (loadO Tryd.prog 3 (.pointer (some ⟨p200, o200 + 1, none⟩)) h204) fun v520 h521 =>
  intK .i64 v520 fun n522 =>
  bindO (call ro 61 [.int .i64 n522, .int .i64 n202] h521) fun v523 h524 =>
  intK .i64 v523 fun n525 =>
  bindO (call ro 58 [.int .i64 n525, .int .i64 n203] h524) fun v526 h527 =>
  strK v526 fun s528 =>
  ifK (s528.toList == (⟨#[]⟩ : ByteArray).toList) (bindO (loadO Tryd.prog 84 (.pointer (some ⟨p200, o200, none⟩)) h527) fun v571 h572 =>
  aggK v571 fun q573 =>
  consK q573 fun x574 q575 =>
  intK .i64 x574 fun n576 =>
  consK q575 fun x577 q578 =>
  intK .i64 x577 fun n579 =>
  consK q578 fun x580 q581 =>
  sliceK x580 fun a582 l582 c582 =>
  nilK q581 <|
  bindO (storeO Tryd.prog ro 84 (.pointer (some ⟨p201, o201, none⟩)) (.agg #[.int .i64 n576, .int .i64 n579, .slice a582 l582 c582]) h572) fun v583 h584 =>
  resOf Tryd.prog Tryd.f43 (EF 99 (updF (updF (fun _ => none) 4 (some (.pointer (some ⟨p201, o201, none⟩)))) 5 (some (.int .i64 22)))) h584) (bindO (loadO Tryd.prog 3 (.pointer (some ⟨p200, o200 + 0, none⟩)) h527) fun v590 h591 =>
  intK .i64 v590 fun n592 =>
  bindO (storeO Tryd.prog ro 3 (.pointer (some ⟨p200, o200 + 0, none⟩)) (.int .i64 (IntKind.i64.wrap (n592 + 5))) h591) fun v593 h594 =>
  bindO (loadO Tryd.prog 22 (.pointer (some ⟨p200, o200 + 2, none⟩)) h594) fun v595 h596 =>
  sliceK v595 fun a597 l597 c597 =>
  bindO (appO Tryd.prog ro 22 9 (.slice a597 l597 c597) (.string s528) h596) fun v598 h599 =>
  sliceK v598 fun a600 l600 c600 =>
  bindO (storeO Tryd.prog ro 22 (.pointer (some ⟨p200, o200 + 2, none⟩)) (.slice a600 l600 c600) h599) fun v601 h602 =>
  j390 h602)

noncomputable def F43.PJ15 (kb : Nat → Nat → Nat → Nat → Int → Int → Heap → Out) (e : Env) (h : Heap) : Out :=
  getK (e.get 3) fun w3 =>
  ptrK w3 fun p603 o603 =>
  getK (e.get 4) fun w4 =>
  ptrK w4 fun p604 o604 =>
  getK (e.get 6) fun w6 =>
  intK .i64 w6 fun n605 =>
  getK (e.get 9) fun w9 =>
  intK .i64 w9 fun n606 =>
  kb p603 o603 p604 o604 n605 n606 h

noncomputable def F43.J4 (call : CT) (lf ro : Nat) (a69 : Option Addr) (l69 : Nat) (c69 : Nat) (p70 : Nat) (o70 : Nat) (p71 : Nat) (o71 : Nat) (n72 : Int) (h73 : Heap) : Out :=
  bindN (loadO Tryd.prog 3 (.pointer (some ⟨p70, o70 + 0, none⟩)) h73) fun v85 h86 =>
  intK .i64 v85 fun n87 =>
  bindN (loadO Tryd.prog 3 (.pointer (some ⟨p70, o70 + 1, none⟩)) h86) fun v88 h89 =>
  intK .i64 v88 fun n90 =>
  bindN (call h89.next 57 [.int .i64 n90] h89) fun v91 h92 =>
  intK .i64 v91 fun n93 =>
  bindO (storeO Tryd.prog ro 3 (.pointer (some ⟨p70, o70 + 0, none⟩)) (.int .i64 (IntKind.i64.wrap (n87 + n93))) h92) fun v94 h95 =>
  bindO (loadO Tryd.prog 3 (.pointer (some ⟨p70, o70 + 1, none⟩)) h95) fun v102 h103 =>
  intK .i64 v102 fun n104 =>
  bindO (call ro 58 [.int .i64 n104, .int .i64 n72] h103) fun v105 h106 =>
  strK v105 fun s107 =>
  letJ (fun (h705 : Heap) =>
  (bindO (loadO Tryd.prog 84 (.pointer (some ⟨p70, o70, none⟩)) h705) fun v721 h722 =>
  aggK v721 fun q723 =>
  consK q723 fun x724 q725 =>
  intK .i64 x724 fun n726 =>
  consK q725 fun x727 q728 =>
  intK .i64 x727 fun n729 =>
  consK q728 fun x730 q731 =>
  sliceK x730 fun a732 l732 c732 =>
  nilK q731 <|
  bindO (storeO Tryd.prog ro 84 (.pointer (some ⟨p71, o71, none⟩)) (.agg #[.int .i64 n726, .int .i64 n729, .slice a732 l732 c732]) h722) fun v733 h734 =>
  resOf Tryd.prog Tryd.f43 (EF 99 (updF (updF (fun _ => none) 4 (some (.pointer (some ⟨p71, o71, none⟩)))) 5 (some (.int .i64 0)))) h734)) fun j706 =>
  ifK (!(s107.toList == (⟨#[]⟩ : ByteArray).toList)) (bindO (loadO Tryd.prog 22 (.pointer (some ⟨p70, o70 + 2, none⟩)) h106) fun v735 h736 =>
  sliceK v735 fun a737 l737 c737 =>
  bindO (appO Tryd.prog ro 22 9 (.slice a737 l737 c737) (.string s107) h736) fun v738 h739 =>
  sliceK v738 fun a740 l740 c740 =>
  bindO (storeO Tryd.prog ro 22 (.pointer (some ⟨p70, o70 + 2, none⟩)) (.slice a740 l740 c740) h739) fun v741 h742 =>
  j706 h742) (bindO (loadO Tryd.prog 3 (.pointer (some ⟨p70, o70 + 1, none⟩)) h106) fun v749 h750 =>
  intK .i64 v749 fun n751 =>
  bindO (call ro 60 [.int .i64 n751, .int .i64 n72] h750) fun v752 h753 =>
  intK .i64 v752 fun n754 =>
  ifK (decide (n754 ≥ 0)) (bindO (loadO Tryd.prog 3 (.pointer (some ⟨p70, o70 + 1, none⟩)) h753) fun v755 h756 =>
  intK .i64 v755 fun n757 =>
  bindO (call ro 60 [.int .i64 n757, .int .i64 n72] h756) fun v758 h759 =>
  intK .i64 v758 fun n760 =>
  bindO (storeO Tryd.prog ro 3 (.pointer (some ⟨p70, o70 + 1, none⟩)) (.int .i64 n760) h759) fun v761 h762 =>
  j706 h762) (bindO (loadO Tryd.prog 3 (.pointer (some ⟨p70, o70 + 1, none⟩)) h753) fun v769 h770 =>
  intK .i64 v769 fun n771 =>
  bindO (call ro 61 [.int .i64 n771, .int .i64 n72] h770) fun v772 h773 =>
  intK .i64 v772 fun n774 =>
  ifK (decide (n774 ≥ 0)) (bindO (loadO Tryd.prog 3 (.pointer (some ⟨p70, o70 + 0, none⟩)) h773) fun v787 h788 =>
  intK .i64 v787 fun n789 =>
  bindO (call ro 67 [.slice a69 l69 c69, .int .i64 n789, .int .i64 5] h788) fun v790 h791 =>
  tupK v790 fun q792 =>
  consK q792 fun x793 q794 =>
  intK .i64 x793 fun n795 =>
  consK q794 fun x796 q797 =>
  intK .i64 x796 fun n798 =>
  nilK q797 <|
  ifK (n798 != 0) (bindO (loadO Tryd.prog 84 (.pointer (some ⟨p70, o70, none⟩)) h791) fun v813 h814 =>
  aggK v813 fun q815 =>
  consK q815 fun x816 q817 =>
  intK .i64 x816 fun n818 =>
  consK q817 fun x819 q820 =>
  intK .i64 x819 fun n821 =>
  consK q820 fun x822 q823 =>
  sliceK x822 fun a824 l824 c824 =>
  nilK q823 <|
  bindO (storeO Tryd.prog ro 84 (.pointer (some ⟨p71, o71, none⟩)) (.agg #[.int .i64 n818, .int .i64 n821, .slice a824 l824 c824]) h814) fun v825 h826 =>
  resOf Tryd.prog Tryd.f43 (EF 99 (updF (updF (fun _ => none) 4 (some (.pointer (some ⟨p71, o71, none⟩)))) 5 (some (.int .i64 10)))) h826) (F43.J15 call lf ro p70 o70 p71 o71 n72 n795 h791)) (bindO (loadO Tryd.prog 3 (.pointer (some ⟨p70, o70 + 1, none⟩)) h773) fun v830 h831 =>
  intK .i64 v830 fun n832 =>
  ifK (n832 == 3) (bindO (loadO Tryd.prog 84 (.pointer (some ⟨p70, o70, none⟩)) h831) fun v847 h848 =>
  aggK v847 fun q849 =>
  consK q849 fun x850 q851 =>
  intK .i64 x850 fun n852 =>
  consK q851 fun x853 q854 =>
  intK .i64 x853 fun n855 =>
  consK q854 fun x856 q857 =>
  sliceK x856 fun a858 l858 c858 =>
  nilK q857 <|
  bindO (storeO Tryd.prog ro 84 (.pointer (some ⟨p71, o71, none⟩)) (.agg #[.int .i64 n852, .int .i64 n855, .slice a858 l858 c858]) h848) fun v859 h860 =>
  resOf Tryd.prog Tryd.f43 (EF 99 (updF (updF (fun _ => none) 4 (some (.pointer (some ⟨p71, o71, none⟩)))) 5 (some (.int .i64 22)))) h860) (bindO (loadO Tryd.prog 84 (.pointer (some ⟨p70, o70, none⟩)) h831) fun v893 h894 =>
  aggK v893 fun q895 =>
  consK q895 fun x896 q897 =>
  intK .i64 x896 fun n898 =>
  consK q897 fun x899 q900 =>
  intK .i64 x899 fun n901 =>
  consK q900 fun x902 q903 =>
  sliceK x902 fun a904 l904 c904 =>
  nilK q903 <|
  bindO (call ro 68 [.slice a69 l69 c69, .agg #[.int .i64 n898, .int .i64 n901, .slice a904 l904 c904]] h894) fun v905 h906 =>
  tupK v905 fun q907 =>
  consK q907 fun x908 q909 =>
  aggK x908 fun q910 =>
  consK q910 fun x911 q912 =>
  intK .i64 x911 fun n913 =>
  consK q912 fun x914 q915 =>
  intK .i64 x914 fun n916 =>
  consK q915 fun x917 q918 =>
  sliceK x917 fun a919 l919 c919 =>
  nilK q918 <|
  consK q909 fun x920 q921 =>
  intK .i64 x920 fun n922 =>
  nilK q921 <|
  bindO (storeO Tryd.prog ro 84 (.pointer (some ⟨p71, o71, none⟩)) (.agg #[.int .i64 n913, .int .i64 n916, .slice a919 l919 c919]) h906) fun v923 h924 =>
  resOf Tryd.prog Tryd.f43 (EF 99 (updF (updF (fun _ => none) 4 (some (.pointer (some ⟨p71, o71, none⟩)))) 5 (some (.int .i64 n922)))) h924))))

noncomputable def F43.PJ4 (kb : (Option Addr) → Nat → Nat → Nat → Nat → Nat → Nat → Int → Heap → Out) (e : Env) (h : Heap) : Out :=
  getK (e.get 0) fun w0 =>
  sliceK w0 fun a925 l925 c925 =>
  getK (e.get 3) fun w3 =>
  ptrK w3 fun p926 o926 =>
  getK (e.get 4) fun w4 =>
  ptrK w4 fun p927 o927 =>
  getK (e.get 6) fun w6 =>
  intK .i64 w6 fun n928 =>
  kb a925 l925 c925 p926 o926 p927 o927 n928 h

noncomputable def F43.t (call : CT) (lf ro : Nat) (ax0 : Option Addr) (lx0 : Nat) (cx0 : Nat) (x1_0 : Int) (x1_1 : Int) (ax1_2 : Option Addr) (lx1_2 : Nat) (cx1_2 : Nat) (h : Heap) : Out :=
  pushJ h 1 [.int .i64 x1_0, .int .i64 x1_1, .slice ax1_2 lx1_2 cx1_2] fun h3 =>
  pushJ h3 1 [.int .i64 0, .int .i64 0, .slice none 0 0] fun h4 =>
  bindN (loadO Tryd.prog 3 (.pointer (some ⟨h.next, 0, none⟩)) h4) fun v23 h24 =>
  intK .i64 v23 fun n25 =>
  bindN (loadO Tryd.prog 3 (.pointer (some ⟨h.next, 1, none⟩)) h24) fun v26 h27 =>
  intK .i64 v26 fun n28 =>
  bindN (call h27.next 57 [.int .i64 n28] h27) fun v29 h30 =>
  intK .i64 v29 fun n31 =>
  bindN (call ro 67 [.slice ax0 lx0 cx0, .int .i64 n25, .int .i64 n31] h30) fun v32 h33 =>
  tupK v32 fun q34 =>
  consK q34 fun x35 q36 =>
  intK .i64 x35 fun n37 =>
  consK q36 fun x38 q39 =>
  intK .i64 x38 fun n40 =>
  nilK q39 <|
  ifK (n40 != 0) (bindO (loadO Tryd.prog 84 (.pointer (some ⟨h.next, 0, none⟩)) h33) fun v55 h56 =>
  aggK v55 fun q57 =>
  consK q57 fun x58 q59 =>
  intK .i64 x58 fun n60 =>
  consK q59 fun x61 q62 =>
  intK .i64 x61 fun n63 =>
  consK q62 fun x64 q65 =>
  sliceK x64 fun a66 l66 c66 =>
  nilK q65 <|
  bindO (storeO Tryd.prog ro 84 (.pointer (some ⟨h3.next, 0, none⟩)) (.agg #[.int .i64 n60, .int .i64 n63, .slice a66 l66 c66]) h56) fun v67 h68 =>
  resOf Tryd.prog Tryd.f43 (EF 99 (updF (updF (fun _ => none) 4 (some (.pointer (some ⟨h3.next, 0, none⟩)))) 5 (some (.int .i64 10)))) h68) (F43.J4 call lf ro ax0 lx0 cx0 h.next 0 h3.next 0 n37 h33)

noncomputable def F43.Ht (call : CT) (lf ro : Nat) (i : Nat) (e : Env) (h : Heap) : Out := .fail
noncomputable def F43.Ut (call : CT) (lf ro : Nat) (i : Nat) : Option (Env → Heap → Out) := ifJ (i == 15) (some (F43.PJ15 (F43.J15 call lf ro))) (ifJ (i == 4) (some (F43.PJ4 (F43.J4 call lf ro))) (none))

noncomputable def F43.CJ15 (call : CT) (lf ro : Nat) : COut → Out := blockK 0 (seqH Tryd.prog call ro (F43.Ht call lf ro) (F43.Ut call lf ro) (sub (codeOf Tryd.f43) [true, true, true, true, true, true]) (endK Tryd.prog Tryd.f43))

noncomputable def F43.KJ15 (call : CT) (lf ro : Nat) : COut → Out := blockK 0 (seqK Tryd.prog call lf ro (sub (codeOf Tryd.f43) [true, true, true, true, true, true]) (endK Tryd.prog Tryd.f43))

noncomputable def F43.CJ4 (call : CT) (lf ro : Nat) : COut → Out := endK Tryd.prog Tryd.f43

noncomputable def F43.KJ4 (call : CT) (lf ro : Nat) : COut → Out := endK Tryd.prog Tryd.f43

theorem F43.RJ15 (call : CT) (lf ro : Nat) (f : Nat → Option Value) (p200 : Nat) (o200 : Nat) (p201 : Nat) (o201 : Nat) (n202 : Int) (n203 : Int) (h204 : Heap) :
    execH Tryd.prog call ro (F43.Ht call lf ro) (F43.Ut call lf ro) (sub (codeOf Tryd.f43) [true, true, true, true, true, false, false, true, true, true, true, true, false, true, true]) (EF 99 (updF (updF (updF (updF f 3 (some (.pointer (some ⟨p200, o200, none⟩)))) 4 (some (.pointer (some ⟨p201, o201, none⟩)))) 6 (some (.int .i64 n202))) 9 (some (.int .i64 n203)))) h204 (F43.CJ15 call lf ro) = F43.J15 call lf ro p200 o200 p201 o201 n202 n203 h204 := by kernel_rfl

theorem F43.CKJ15 (call : CT) (lf ro : Nat) : KLe 99 (F43.CJ15 call lf ro) (F43.KJ15 call lf ro) :=
  (KLe.block (KLe.seq (H := (F43.Ht call lf ro)) (J := (F43.Ut call lf ro)) (KLe.refl _) (hd_free rfl)))

theorem F43.BJ15 (call : CT) (lf ro : Nat) : ∀ e h, Shaped 99 e → LeO (F43.PJ15 (F43.J15 call lf ro) e h) (execK Tryd.prog call lf ro (sub (codeOf Tryd.f43) [true, true, true, true, true, false, false, true, true, true, true, true, false, true, true]) e h (F43.KJ15 call lf ro)) := by
    rintro e h ⟨f, rfl⟩
    unfold F43.PJ15
    refine getK_le fun w3 g3 => ?_
    rw [EF_get (by decide)] at g3
    refine ptrK_le fun p603 o603 z929 => ?_
    subst z929
    refine getK_le fun w4 g4 => ?_
    rw [EF_get (by decide)] at g4
    refine ptrK_le fun p604 o604 z930 => ?_
    subst z930
    refine getK_le fun w6 g6 => ?_
    rw [EF_get (by decide)] at g6
    refine intK_le fun n605 z931 => ?_
    subst z931
    refine getK_le fun w9 g9 => ?_
    rw [EF_get (by decide)] at g9
    refine intK_le fun n606 z932 => ?_
    subst z932
    have hr := F43.RJ15 call lf ro f p603 o603 p604 o604 n605 n606 h
    rw [updF_same g3, updF_same g4, updF_same g6, updF_same g9] at hr
    exact cut_le (H := (F43.Ht call lf ro)) (J := (F43.Ut call lf ro)) (F43.CKJ15 call lf ro) (hd_free rfl) hr

theorem F43.RJ4 (call : CT) (lf ro : Nat) (f : Nat → Option Value) (a69 : Option Addr) (l69 : Nat) (c69 : Nat) (p70 : Nat) (o70 : Nat) (p71 : Nat) (o71 : Nat) (n72 : Int) (h73 : Heap) :
    execH Tryd.prog call ro (F43.Ht call lf ro) (F43.Ut call lf ro) (sub (codeOf Tryd.f43) [true, true, true]) (EF 99 (updF (updF (updF (updF f 0 (some (.slice a69 l69 c69))) 3 (some (.pointer (some ⟨p70, o70, none⟩)))) 4 (some (.pointer (some ⟨p71, o71, none⟩)))) 6 (some (.int .i64 n72)))) h73 (F43.CJ4 call lf ro) = F43.J4 call lf ro a69 l69 c69 p70 o70 p71 o71 n72 h73 := by kernel_rfl

theorem F43.CKJ4 (call : CT) (lf ro : Nat) : KLe 99 (F43.CJ4 call lf ro) (F43.KJ4 call lf ro) :=
  (KLe.refl _)

theorem F43.BJ4 (call : CT) (lf ro : Nat) : ∀ e h, Shaped 99 e → LeO (F43.PJ4 (F43.J4 call lf ro) e h) (execK Tryd.prog call lf ro (sub (codeOf Tryd.f43) [true, true, true]) e h (F43.KJ4 call lf ro)) := by
    rintro e h ⟨f, rfl⟩
    unfold F43.PJ4
    refine getK_le fun w0 g0 => ?_
    rw [EF_get (by decide)] at g0
    refine sliceK_le fun a925 l925 c925 z937 => ?_
    subst z937
    refine getK_le fun w3 g3 => ?_
    rw [EF_get (by decide)] at g3
    refine ptrK_le fun p926 o926 z938 => ?_
    subst z938
    refine getK_le fun w4 g4 => ?_
    rw [EF_get (by decide)] at g4
    refine ptrK_le fun p927 o927 z939 => ?_
    subst z939
    refine getK_le fun w6 g6 => ?_
    rw [EF_get (by decide)] at g6
    refine intK_le fun n928 z940 => ?_
    subst z940
    have hr := F43.RJ4 call lf ro f a925 l925 c925 p926 o926 p927 o927 n928 h
    rw [updF_same g0, updF_same g3, updF_same g4, updF_same g6] at hr
    exact cut_le (H := (F43.Ht call lf ro)) (J := (F43.Ut call lf ro)) (F43.CKJ4 call lf ro) ⟨(hd_free rfl), ⟨(hd_free rfl), ⟨⟨(hd_free rfl), ⟨(hd_free rfl), ⟨(hd_free rfl), ⟨(hd_free rfl), ⟨(hd_free rfl), ⟨⟨(hd_free rfl), ⟨(hd_free rfl), (fun e h hs => F43.BJ15 call lf ro  e h hs)⟩⟩, (hd_free rfl)⟩⟩⟩⟩⟩⟩, (hd_free rfl)⟩⟩⟩ hr

theorem F43.le (call : CT) (lf ro : Nat) (ax0 : Option Addr) (lx0 : Nat) (cx0 : Nat) (x1_0 : Int) (x1_1 : Int) (ax1_2 : Option Addr) (lx1_2 : Nat) (cx1_2 : Nat) (h : Heap) : LeO (F43.t call lf ro ax0 lx0 cx0 x1_0 x1_1 ax1_2 lx1_2 cx1_2 h) (bodyK Tryd.prog call lf ro Tryd.f43 [.slice ax0 lx0 cx0, .agg #[.int .i64 x1_0, .int .i64 x1_1, .slice ax1_2 lx1_2 cx1_2]] h) :=
  body_le (c := codeOf Tryd.f43) (H := F43.Ht call lf ro) (J := F43.Ut call lf ro) rfl (Nat.le_of_ble_eq_true rfl) ⟨(hd_free rfl), ⟨(hd_free rfl), ⟨(hd_free rfl), (fun e h hs => F43.BJ4 call lf ro  e h hs)⟩⟩⟩ (by kernel_rfl)

/-! ### barscan/barscanref27.Decode: function 17 -/

noncomputable def F17.J7 (call : CT) (lf ro : Nat) (p22 : Nat) (o22 : Nat) (n23 : Int) (h24 : Heap) : Out :=
  ifK (n23 != 0) (Out.ok (.tuple #[.slice none 0 0, .int .i64 n23]) h24) (bindO (loadO Tryd.prog 22 (.pointer (some ⟨p22, o22 + 2, none⟩)) h24) fun v28 h29 =>
  sliceK v28 fun a30 l30 c30 =>
  Out.ok (.tuple #[.slice a30 l30 c30, .int .i64 0]) h29)

noncomputable def F17.PJ7 (kb : Nat → Nat → Int → Heap → Out) (e : Env) (h : Heap) : Out :=
  getK (e.get 4) fun w4 =>
  ptrK w4 fun p31 o31 =>
  getK (e.get 5) fun w5 =>
  intK .i64 w5 fun n32 =>
  kb p31 o31 n32 h

noncomputable def F17.L5 (call : CT) (lf ro : Nat) : Nat → (Option Addr) → Nat → Nat → Nat → Nat → Int → Heap → Out
  | 0, _, _, _, _, _, _, _ => .fail
  | n + 1, a9, l9, c9, p10, o10, n11, h12 =>
  letJ (fun (b19 : Bool) (h20 : Heap) =>
  (ifK b19 (bindO (loadO Tryd.prog 84 (.pointer (some ⟨p10, o10, none⟩)) h20) fun v33 h34 =>
  aggK v33 fun q35 =>
  consK q35 fun x36 q37 =>
  intK .i64 x36 fun n38 =>
  consK q37 fun x39 q40 =>
  intK .i64 x39 fun n41 =>
  consK q40 fun x42 q43 =>
  sliceK x42 fun a44 l44 c44 =>
  nilK q43 <|
  bindO (call ro 43 [.slice a9 l9 c9, .agg #[.int .i64 n38, .int .i64 n41, .slice a44 l44 c44]] h34) fun v45 h46 =>
  tupK v45 fun q47 =>
  consK q47 fun x48 q49 =>
  aggK x48 fun q50 =>
  consK q50 fun x51 q52 =>
  intK .i64 x51 fun n53 =>
  consK q52 fun x54 q55 =>
  intK .i64 x54 fun n56 =>
  consK q55 fun x57 q58 =>
  sliceK x57 fun a59 l59 c59 =>
  nilK q58 <|
  consK q49 fun x60 q61 =>
  intK .i64 x60 fun n62 =>
  nilK q61 <|
  bindO (storeO Tryd.prog ro 84 (.pointer (some ⟨p10, o10, none⟩)) (.agg #[.int .i64 n53, .int .i64 n56, .slice a59 l59 c59]) h46) fun v63 h64 =>
  F17.L5 call lf ro n a9 l9 c9 p10 o10 n62 h64) (F17.J7 call lf ro p10 o10 n11 h20))) fun j21 =>
  bindO (loadO Tryd.prog 3 (.pointer (some ⟨p10, o10 + 0, none⟩)) h12) fun v65 h66 =>
  intK .i64 v65 fun n67 =>
  bindO (call ro 42 [.slice a9 l9 c9, .int .i64 n67] h66) fun v68 h69 =>
  boolK v68 fun b70 =>
  ifK (!b70) (j21 (n11 == 0) h69) (j21 false h69)

noncomputable def F17.P5 (kb : (Option Addr) → Nat → Nat → Nat → Nat → Int → Heap → Out) (e : Env) (h : Heap) : Out :=
  getK (e.get 0) fun w0 =>
  sliceK w0 fun a71 l71 c71 =>
  getK (e.get 4) fun w4 =>
  ptrK w4 fun p72 o72 =>
  getK (e.get 5) fun w5 =>
  intK .i64 w5 fun n73 =>
  kb a71 l71 c71 p72 o72 n73 h

noncomputable def F17.J3 (call : CT) (lf ro : Nat) (a1 : Option Addr) (l1 : Nat) (c1 : Nat) (h2 : Heap) : Out :=
  pushJ h2 1 [.int .i64 0, .int .i64 0, .slice none 0 0] fun h6 =>
  bindO (storeO Tryd.prog ro 84 (.pointer (some ⟨h2.next, 0, none⟩)) (.agg #[.int .i64 0, .int .i64 0, .slice none 0 0]) h6) fun v7 h8 =>
  F17.L5 call lf ro lf a1 l1 c1 h2.next 0 0 h8

noncomputable def F17.PJ3 (kb : (Option Addr) → Nat → Nat → Heap → Out) (e : Env) (h : Heap) : Out :=
  getK (e.get 0) fun w0 =>
  sliceK w0 fun a74 l74 c74 =>
  kb a74 l74 c74 h

noncomputable def F17.t (call : CT) (lf ro : Nat) (ax0 : Option Addr) (lx0 : Nat) (cx0 : Nat) (h : Heap) : Out :=
  ifK (decide ((lx0 : Int) > 1048576)) (Out.ok (.tuple #[.slice none 0 0, .int .i64 4]) h) (F17.J3 call lf ro ax0 lx0 cx0 h)

noncomputable def F17.Ht (call : CT) (lf ro : Nat) (i : Nat) (e : Env) (h : Heap) : Out := ifK (i == 5) (F17.P5 (F17.L5 call lf ro lf) e h) (.fail)
noncomputable def F17.Ut (call : CT) (lf ro : Nat) (i : Nat) : Option (Env → Heap → Out) := ifJ (i == 7) (some (F17.PJ7 (F17.J7 call lf ro))) (ifJ (i == 3) (some (F17.PJ3 (F17.J3 call lf ro))) (none))

noncomputable def F17.H5 (call : CT) (lf ro : Nat) (kb5 : (Option Addr) → Nat → Nat → Nat → Nat → Int → Heap → Out) (i : Nat) (e : Env) (h : Heap) : Out := ifK (i == 5) (F17.P5 (F17.L5 call lf ro lf) e h) (.fail)
noncomputable def F17.U5 (call : CT) (lf ro : Nat) (kb5 : (Option Addr) → Nat → Nat → Nat → Nat → Int → Heap → Out) (i : Nat) : Option (Env → Heap → Out) := ifJ (i == 7) (some (F17.PJ7 (F17.J7 call lf ro))) (ifJ (i == 3) (some (F17.PJ3 (F17.J3 call lf ro))) (none))

noncomputable def F17.C5 (call : CT) (lf ro : Nat) : COut → Out := blockK 0 (seqH Tryd.prog call ro (F17.Ht call lf ro) (F17.Ut call lf ro) (sub (codeOf Tryd.f17) [true, true, true, true, true]) (endK Tryd.prog Tryd.f17))

noncomputable def F17.K5 (call : CT) (lf ro : Nat) : COut → Out := blockK 0 (seqK Tryd.prog call lf ro (sub (codeOf Tryd.f17) [true, true, true, true, true]) (endK Tryd.prog Tryd.f17))

noncomputable def F17.CJ7 (call : CT) (lf ro : Nat) : COut → Out := endK Tryd.prog Tryd.f17

noncomputable def F17.KJ7 (call : CT) (lf ro : Nat) : COut → Out := endK Tryd.prog Tryd.f17

noncomputable def F17.CJ3 (call : CT) (lf ro : Nat) : COut → Out := endK Tryd.prog Tryd.f17

noncomputable def F17.KJ3 (call : CT) (lf ro : Nat) : COut → Out := endK Tryd.prog Tryd.f17

theorem F17.RJ7 (call : CT) (lf ro : Nat) (f : Nat → Option Value) (p22 : Nat) (o22 : Nat) (n23 : Int) (h24 : Heap) :
    execH Tryd.prog call ro (F17.Ht call lf ro) (F17.Ut call lf ro) (sub (codeOf Tryd.f17) [true, true, true, true, true]) (EF 30 (updF (updF f 4 (some (.pointer (some ⟨p22, o22, none⟩)))) 5 (some (.int .i64 n23)))) h24 (F17.CJ7 call lf ro) = F17.J7 call lf ro p22 o22 n23 h24 := by kernel_rfl

theorem F17.CKJ7 (call : CT) (lf ro : Nat) : KLe 30 (F17.CJ7 call lf ro) (F17.KJ7 call lf ro) :=
  (KLe.refl _)

theorem F17.BJ7 (call : CT) (lf ro : Nat) : ∀ e h, Shaped 30 e → LeO (F17.PJ7 (F17.J7 call lf ro) e h) (execK Tryd.prog call lf ro (sub (codeOf Tryd.f17) [true, true, true, true, true]) e h (F17.KJ7 call lf ro)) := by
    rintro e h ⟨f, rfl⟩
    unfold F17.PJ7
    refine getK_le fun w4 g4 => ?_
    rw [EF_get (by decide)] at g4
    refine ptrK_le fun p31 o31 z75 => ?_
    subst z75
    refine getK_le fun w5 g5 => ?_
    rw [EF_get (by decide)] at g5
    refine intK_le fun n32 z76 => ?_
    subst z76
    have hr := F17.RJ7 call lf ro f p31 o31 n32 h
    rw [updF_same g4, updF_same g5] at hr
    exact cut_le (H := (F17.Ht call lf ro)) (J := (F17.Ut call lf ro)) (F17.CKJ7 call lf ro) (hd_free rfl) hr

theorem F17.R5 (call : CT) (lf ro : Nat) (n : Nat) (f : Nat → Option Value) (a9 : Option Addr) (l9 : Nat) (c9 : Nat) (p10 : Nat) (o10 : Nat) (n11 : Int) (h12 : Heap) :
    execH Tryd.prog call ro (F17.H5 call lf ro (F17.L5 call lf ro n)) (F17.U5 call lf ro (F17.L5 call lf ro n)) (sub (codeOf Tryd.f17) [true, true, true, true, false, false, false]) (EF 30 (updF (updF (updF f 0 (some (.slice a9 l9 c9))) 4 (some (.pointer (some ⟨p10, o10, none⟩)))) 5 (some (.int .i64 n11)))) h12 (outK (F17.P5 (F17.L5 call lf ro n)) (fun i e h => F17.C5 call lf ro (.exit i e h)) (fun e h => F17.C5 call lf ro (.ret e h))) = F17.L5 call lf ro (n + 1) a9 l9 c9 p10 o10 n11 h12 := by kernel_rfl

theorem F17.CK5 (call : CT) (lf ro : Nat) : KLe 30 (F17.C5 call lf ro) (F17.K5 call lf ro) :=
  (KLe.block (KLe.seq (H := (F17.Ht call lf ro)) (J := (F17.Ut call lf ro)) (KLe.refl _) (fun e h hs => F17.BJ7 call lf ro  e h hs)))

theorem F17.B5 (call : CT) (lf ro : Nat) : ∀ n e h, Shaped 30 e → LeO (F17.P5 (F17.L5 call lf ro n) e h) (loopK (execK Tryd.prog call lf ro (sub (codeOf Tryd.f17) [true, true, true, true, false, false, false])) n e h (F17.K5 call lf ro)) := by
  refine loop_le (fun e h k k' hs hk => execK_mono _ e h k k' hs hk) (kb := fun n => F17.P5 (F17.L5 call lf ro n)) (kx := fun i e h => F17.C5 call lf ro (.exit i e h)) (kr := fun e h => F17.C5 call lf ro (.ret e h)) ?_ ?_ (fun i e h hs => (F17.CK5 call lf ro).exit i e h hs) (fun e h hs => (F17.CK5 call lf ro).ret e h hs)
  · rintro e h ⟨f, rfl⟩
    unfold F17.P5
    refine getK_le fun w0 g0 => ?_
    rw [EF_get (by decide)] at g0
    refine sliceK_le fun a71 l71 c71 z79 => ?_
    subst z79
    refine getK_le fun w4 g4 => ?_
    rw [EF_get (by decide)] at g4
    refine ptrK_le fun p72 o72 z80 => ?_
    subst z80
    refine getK_le fun w5 g5 => ?_
    rw [EF_get (by decide)] at g5
    refine intK_le fun n73 z81 => ?_
    subst z81
    exact LeO.refl _
  · rintro n e h ⟨f, rfl⟩
    unfold F17.P5
    refine getK_le fun w0 g0 => ?_
    rw [EF_get (by decide)] at g0
    refine sliceK_le fun a71 l71 c71 z82 => ?_
    subst z82
    refine getK_le fun w4 g4 => ?_
    rw [EF_get (by decide)] at g4
    refine ptrK_le fun p72 o72 z83 => ?_
    subst z83
    refine getK_le fun w5 g5 => ?_
    rw [EF_get (by decide)] at g5
    refine intK_le fun n73 z84 => ?_
    subst z84
    have hr := F17.R5 call lf ro n f a71 l71 c71 p72 o72 n73 h
    rw [updF_same g0, updF_same g4, updF_same g5] at hr
    exact round_le (H := (F17.H5 call lf ro (F17.L5 call lf ro n))) (J := (F17.U5 call lf ro (F17.L5 call lf ro n))) (hd_free rfl) hr

theorem F17.RJ3 (call : CT) (lf ro : Nat) (f : Nat → Option Value) (a1 : Option Addr) (l1 : Nat) (c1 : Nat) (h2 : Heap) :
    execH Tryd.prog call ro (F17.Ht call lf ro) (F17.Ut call lf ro) (sub (codeOf Tryd.f17) [true, true]) (EF 30 (updF f 0 (some (.slice a1 l1 c1)))) h2 (F17.CJ3 call lf ro) = F17.J3 call lf ro a1 l1 c1 h2 := by kernel_rfl

theorem F17.CKJ3 (call : CT) (lf ro : Nat) : KLe 30 (F17.CJ3 call lf ro) (F17.KJ3 call lf ro) :=
  (KLe.refl _)

theorem F17.BJ3 (call : CT) (lf ro : Nat) : ∀ e h, Shaped 30 e → LeO (F17.PJ3 (F17.J3 call lf ro) e h) (execK Tryd.prog call lf ro (sub (codeOf Tryd.f17) [true, true]) e h (F17.KJ3 call lf ro)) := by
    rintro e h ⟨f, rfl⟩
    unfold F17.PJ3
    refine getK_le fun w0 g0 => ?_
    rw [EF_get (by decide)] at g0
    refine sliceK_le fun a74 l74 c74 z85 => ?_
    subst z85
    have hr := F17.RJ3 call lf ro f a74 l74 c74 h
    rw [updF_same g0] at hr
    exact cut_le (H := (F17.Ht call lf ro)) (J := (F17.Ut call lf ro)) (F17.CKJ3 call lf ro) ⟨(hd_free rfl), ⟨(hd_free rfl), ⟨(fun e h hs => F17.B5 call lf ro  lf e h hs), (fun e h hs => F17.BJ7 call lf ro  e h hs)⟩⟩⟩ hr

theorem F17.le (call : CT) (lf ro : Nat) (ax0 : Option Addr) (lx0 : Nat) (cx0 : Nat) (h : Heap) : LeO (F17.t call lf ro ax0 lx0 cx0 h) (bodyK Tryd.prog call lf ro Tryd.f17 [.slice ax0 lx0 cx0] h) :=
  body_le (c := codeOf Tryd.f17) (H := F17.Ht call lf ro) (J := F17.Ut call lf ro) rfl (Nat.le_of_ble_eq_true rfl) ⟨(hd_free rfl), ⟨(hd_free rfl), (fun e h hs => F17.BJ3 call lf ro  e h hs)⟩⟩ (by kernel_rfl)

/-! ### barscan/barscanlaw27.AztextDecodes: function 4 -/

noncomputable def F4.J3 (call : CT) (lf ro : Nat) (a7 : Option Addr) (l7 : Nat) (c7 : Nat) (h8 : Heap) : Out :=
  bindO (call ro 16 [.slice a7 l7 c7] h8) fun v18 h19 =>
  tupK v18 fun q20 =>
  consK q20 fun x21 q22 =>
  sliceK x21 fun a23 l23 c23 =>
  consK q22 fun x24 q25 =>
  intK .i64 x24 fun n26 =>
  nilK q25 <|
  bindO (call ro 17 [.slice a7 l7 c7] h19) fun v36 h37 =>
  tupK v36 fun q38 =>
  consK q38 fun x39 q40 =>
  sliceK x39 fun a41 l41 c41 =>
  consK q40 fun x42 q43 =>
  intK .i64 x42 fun n44 =>
  nilK q43 <|
  letJ (fun (b54 : Bool) (h55 : Heap) =>
  (Out.ok (.bool b54) h55)) fun j56 =>
  bindO (conv Tryd.prog ro 22 9 (.slice a23 l23 c23) h37) fun v57 h58 =>
  strK v57 fun s59 =>
  bindO (conv Tryd.prog ro 22 9 (.slice a41 l41 c41) h58) fun v60 h61 =>
  strK v60 fun s62 =>
  ifK (s59.toList == s62.toList) (ifK (n26 == n44) (bindO (call ro 11 [] h61) fun v63 h64 =>
  boolK v63 fun b65 =>
  j56 b65 h64) (j56 false h61)) (j56 false h61)

noncomputable def F4.PJ3 (kb : (Option Addr) → Nat → Nat → Heap → Out) (e : Env) (h : Heap) : Out :=
  getK (e.get 0) fun w0 =>
  sliceK w0 fun a66 l66 c66 =>
  kb a66 l66 c66 h

noncomputable def F4.t (call : CT) (lf ro : Nat) (ax0 : Option Addr) (lx0 : Nat) (cx0 : Nat) (h : Heap) : Out :=
  ifK (decide ((lx0 : Int) > 2000)) (bindO (call ro 11 [] h) fun v4 h5 =>
  boolK v4 fun b6 =>
  Out.ok (.bool b6) h5) (F4.J3 call lf ro ax0 lx0 cx0 h)

noncomputable def F4.Ht (call : CT) (lf ro : Nat) (i : Nat) (e : Env) (h : Heap) : Out := .fail
noncomputable def F4.Ut (call : CT) (lf ro : Nat) (i : Nat) : Option (Env → Heap → Out) := ifJ (i == 3) (some (F4.PJ3 (F4.J3 call lf ro))) (none)

noncomputable def F4.CJ3 (call : CT) (lf ro : Nat) : COut → Out := endK Tryd.prog Tryd.f4

noncomputable def F4.KJ3 (call : CT) (lf ro : Nat) : COut → Out := endK Tryd.prog Tryd.f4

theorem F4.RJ3 (call : CT) (lf ro : Nat) (f : Nat → Option Value) (a7 : Option Addr) (l7 : Nat) (c7 : Nat) (h8 : Heap) :
    execH Tryd.prog call ro (F4.Ht call lf ro) (F4.Ut call lf ro) (sub (codeOf Tryd.f4) [true, true]) (EF 34 (updF f 0 (some (.slice a7 l7 c7)))) h8 (F4.CJ3 call lf ro) = F4.J3 call lf ro a7 l7 c7 h8 := by kernel_rfl

theorem F4.CKJ3 (call : CT) (lf ro : Nat) : KLe 34 (F4.CJ3 call lf ro) (F4.KJ3 call lf ro) :=
  (KLe.refl _)

theorem F4.BJ3 (call : CT) (lf ro : Nat) : ∀ e h, Shaped 34 e → LeO (F4.PJ3 (F4.J3 call lf ro) e h) (execK Tryd.prog call lf ro (sub (codeOf Tryd.f4) [true, true]) e h (F4.KJ3 call lf ro)) := by
    rintro e h ⟨f, rfl⟩
    unfold F4.PJ3
    refine getK_le fun w0 g0 => ?_
    rw [EF_get (by decide)] at g0
    refine sliceK_le fun a66 l66 c66 z67 => ?_
    subst z67
    have hr := F4.RJ3 call lf ro f a66 l66 c66 h
    rw [updF_same g0] at hr
    exact cut_le (H := (F4.Ht call lf ro)) (J := (F4.Ut call lf ro)) (F4.CKJ3 call lf ro) (hd_free rfl) hr

theorem F4.le (call : CT) (lf ro : Nat) (ax0 : Option Addr) (lx0 : Nat) (cx0 : Nat) (h : Heap) : LeO (F4.t call lf ro ax0 lx0 cx0 h) (bodyK Tryd.prog call lf ro Tryd.f4 [.slice ax0 lx0 cx0] h) :=
  body_le (c := codeOf Tryd.f4) (H := F4.Ht call lf ro) (J := F4.Ut call lf ro) rfl (Nat.le_of_ble_eq_true rfl) ⟨(hd_free rfl), ⟨(hd_free rfl), (fun e h hs => F4.BJ3 call lf ro  e h hs)⟩⟩ (by kernel_rfl)

end Go.Proofs.YtfadfpcelhdfbaaDoor
