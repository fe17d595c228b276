/-
  The functions that write, as the interpreter runs them, written out; no statement of the seat is proved in this file.
-/
import Derived.Test.YtgpnjdldpehidaaDoorProg
import Derived.KernelRfl
import Derived.Test.YtgpnjdldpehidaaDoorAbsG
open Go Go.Abs Go.Proofs
set_option maxRecDepth 100000
set_option linter.unusedVariables false
namespace Go.Proofs.YtgpnjdldpehidaaDoor

def wlit1 : ByteArray := (⟨#[48, 49, 50, 51, 52, 53, 54, 55, 56, 57, 97, 98, 99, 100, 101, 102, 103, 104, 105, 106, 107, 108, 109, 110, 111, 112, 113, 114, 115, 116, 117, 118, 119, 120, 121, 122]⟩ : ByteArray)
def wlit2 : ByteArray := (⟨#[48, 48, 48, 49, 48, 50, 48, 51, 48, 52, 48, 53, 48, 54, 48, 55, 48, 56, 48, 57, 49, 48, 49, 49, 49, 50, 49, 51, 49, 52, 49, 53, 49, 54, 49, 55, 49, 56, 49, 57, 50, 48, 50, 49, 50, 50, 50, 51, 50, 52, 50, 53, 50, 54, 50, 55, 50, 56, 50, 57, 51, 48, 51, 49, 51, 50, 51, 51, 51, 52, 51, 53, 51, 54, 51, 55, 51, 56, 51, 57, 52, 48, 52, 49, 52, 50, 52, 51, 52, 52, 52, 53, 52, 54, 52, 55, 52, 56, 52, 57, 53, 48, 53, 49, 53, 50, 53, 51, 53, 52, 53, 53, 53, 54, 53, 55, 53, 56, 53, 57, 54, 48, 54, 49, 54, 50, 54, 51, 54, 52, 54, 53, 54, 54, 54, 55, 54, 56, 54, 57, 55, 48, 55, 49, 55, 50, 55, 51, 55, 52, 55, 53, 55, 54, 55, 55, 55, 56, 55, 57, 56, 48, 56, 49, 56, 50, 56, 51, 56, 52, 56, 53, 56, 54, 56, 55, 56, 56, 56, 57, 57, 48, 57, 49, 57, 50, 57, 51, 57, 52, 57, 53, 57, 54, 57, 55, 57, 56, 57, 57]⟩ : ByteArray)
def wlit3 : ByteArray := (⟨#[0, 1, 2, 2, 3, 3, 3, 3, 4, 4, 4, 4, 4, 4, 4, 4, 5, 5, 5, 5, 5, 5, 5, 5, 5, 5, 5, 5, 5, 5, 5, 5, 6, 6, 6, 6, 6, 6, 6, 6, 6, 6, 6, 6, 6, 6, 6, 6, 6, 6, 6, 6, 6, 6, 6, 6, 6, 6, 6, 6, 6, 6, 6, 6, 7, 7, 7, 7, 7, 7, 7, 7, 7, 7, 7, 7, 7, 7, 7, 7, 7, 7, 7, 7, 7, 7, 7, 7, 7, 7, 7, 7, 7, 7, 7, 7, 7, 7, 7, 7, 7, 7, 7, 7, 7, 7, 7, 7, 7, 7, 7, 7, 7, 7, 7, 7, 7, 7, 7, 7, 7, 7, 7, 7, 7, 7, 7, 7, 8, 8, 8, 8, 8, 8, 8, 8, 8, 8, 8, 8, 8, 8, 8, 8, 8, 8, 8, 8, 8, 8, 8, 8, 8, 8, 8, 8, 8, 8, 8, 8, 8, 8, 8, 8, 8, 8, 8, 8, 8, 8, 8, 8, 8, 8, 8, 8, 8, 8, 8, 8, 8, 8, 8, 8, 8, 8, 8, 8, 8, 8, 8, 8, 8, 8, 8, 8, 8, 8, 8, 8, 8, 8, 8, 8, 8, 8, 8, 8, 8, 8, 8, 8, 8, 8, 8, 8, 8, 8, 8, 8, 8, 8, 8, 8, 8, 8, 8, 8, 8, 8, 8, 8, 8, 8, 8, 8, 8, 8, 8, 8, 8, 8, 8, 8, 8, 8, 8, 8, 8, 8, 8, 8, 8, 8, 8, 8]⟩ : ByteArray)
/-! ### barscan/netpbm.Write: function 10 -/

noncomputable def F10.J13 (call : CT) (lf ro : Nat) (kb12 : Int → Nat → Nat → (Option Addr) → Nat → Nat → Int → Int → Heap → Out) (n109 : Int) (p110 : Nat) (o110 : Nat) (a111 : Option Addr) (l111 : Nat) (c111 : Nat) (n112 : Int) (n113 : Int) (h114 : Heap) : Out :=
  letJ (fun (a226 : Option Addr) (l226 : Nat) (c226 : Nat) (h227 : Heap) =>
  (kb12 n109 p110 o110 a226 l226 c226 n112 (IntKind.i64.wrap (n113 + 1)) h227)) fun j228 =>
  bindO (loadO Tryd.prog 22 (.pointer (some ⟨p110, o110 + 2, none⟩)) h114) fun v241 h242 =>
  sliceK v241 fun a243 l243 c243 =>
  bindO (loadO Tryd.prog 3 (.pointer (some ⟨p110, o110 + 0, none⟩)) h242) fun v244 h245 =>
  intK .i64 v244 fun n246 =>
  bindO (loadO Tryd.prog 3 (.pointer (some ⟨p110, o110 + 0, none⟩)) h245) fun v247 h248 =>
  intK .i64 v247 fun n249 =>
  bindO (sliceO Tryd.prog 22 (.slice a243 l243 c243) (some (.int .i64 (IntKind.i64.wrap (n113 * n246)))) (some (.int .i64 (IntKind.i64.wrap ((IntKind.i64.wrap (n113 + 1)) * n249)))) h248) fun v250 h251 =>
  sliceK v250 fun a252 l252 c252 =>
  ifK (n109 == 1) (bindO (call ro 25 [.slice a111 l111 c111, .slice a252 l252 c252] h251) fun v253 h254 =>
  sliceK v253 fun a255 l255 c255 =>
  j228 a255 l255 c255 h254) (ifK (n109 == 2) (bindO (call ro 26 [.slice a111 l111 c111, .slice a252 l252 c252] h251) fun v256 h257 =>
  sliceK v256 fun a258 l258 c258 =>
  j228 a258 l258 c258 h257) (ifK (n109 == 4) (bindO (call ro 27 [.slice a111 l111 c111, .slice a252 l252 c252] h251) fun v259 h260 =>
  sliceK v259 fun a261 l261 c261 =>
  j228 a261 l261 c261 h260) (bindO (appO Tryd.prog ro 22 22 (.slice a111 l111 c111) (.slice a252 l252 c252) h251) fun v262 h263 =>
  sliceK v262 fun a264 l264 c264 =>
  j228 a264 l264 c264 h263)))

noncomputable def F10.PJ13 (kb : Int → Nat → Nat → (Option Addr) → Nat → Nat → Int → Int → Heap → Out) (e : Env) (h : Heap) : Out :=
  getK (e.get 1) fun w1 =>
  intK .i64 w1 fun n265 =>
  getK (e.get 2) fun w2 =>
  ptrK w2 fun p266 o266 =>
  getK (e.get 6) fun w6 =>
  sliceK w6 fun a267 l267 c267 =>
  getK (e.get 47) fun w47 =>
  intK .i64 w47 fun n268 =>
  getK (e.get 48) fun w48 =>
  intK .i64 w48 fun n269 =>
  kb n265 p266 o266 a267 l267 c267 n268 n269 h

noncomputable def F10.L12 (call : CT) (lf ro : Nat) : Nat → Int → Nat → Nat → (Option Addr) → Nat → Nat → Int → Int → Heap → Out
  | 0, _, _, _, _, _, _, _, _, _ => .fail
  | n + 1, n103, p104, o104, a105, l105, c105, n106, n107, h108 =>
  ifK (decide (n107 < n106)) (F10.J13 call lf ro (F10.L12 call lf ro n) n103 p104 o104 a105 l105 c105 n106 n107 h108) (Out.ok (.tuple #[.slice a105 l105 c105, .int .i64 0]) h108)

noncomputable def F10.P12 (kb : Int → Nat → Nat → (Option Addr) → Nat → Nat → Int → Int → Heap → Out) (e : Env) (h : Heap) : Out :=
  getK (e.get 1) fun w1 =>
  intK .i64 w1 fun n270 =>
  getK (e.get 2) fun w2 =>
  ptrK w2 fun p271 o271 =>
  getK (e.get 6) fun w6 =>
  sliceK w6 fun a272 l272 c272 =>
  getK (e.get 47) fun w47 =>
  intK .i64 w47 fun n273 =>
  getK (e.get 48) fun w48 =>
  intK .i64 w48 fun n274 =>
  kb n270 p271 o271 a272 l272 c272 n273 n274 h

noncomputable def F10.J11 (call : CT) (lf ro : Nat) (n93 : Int) (p94 : Nat) (o94 : Nat) (a95 : Option Addr) (l95 : Nat) (c95 : Nat) (h96 : Heap) : Out :=
  bindO (loadO Tryd.prog 3 (.pointer (some ⟨p94, o94 + 1, none⟩)) h96) fun v100 h101 =>
  intK .i64 v100 fun n102 =>
  F10.L12 call lf ro lf n93 p94 o94 a95 l95 c95 n102 0 h101

noncomputable def F10.PJ11 (kb : Int → Nat → Nat → (Option Addr) → Nat → Nat → Heap → Out) (e : Env) (h : Heap) : Out :=
  getK (e.get 1) fun w1 =>
  intK .i64 w1 fun n275 =>
  getK (e.get 2) fun w2 =>
  ptrK w2 fun p276 o276 =>
  getK (e.get 6) fun w6 =>
  sliceK w6 fun a277 l277 c277 =>
  kb n275 p276 o276 a277 l277 c277 h

noncomputable def F10.J5 (call : CT) (lf ro : Nat) (n39 : Int) (p40 : Nat) (o40 : Nat) (h41 : Heap) : Out :=
  pushJ h41 1 [.int .u8 80, .int .u8 (IntKind.u8.wrap (48 + (IntKind.u8.wrap n39))), .int .u8 10] fun h43 =>
  bindO (loadO Tryd.prog 3 (.pointer (some ⟨p40, o40 + 0, none⟩)) h43) fun v50 h51 =>
  intK .i64 v50 fun n52 =>
  bindO (call ro 24 [.slice (some ⟨h41.next, 0, none⟩) 3 3, .int .i64 n52, .int .i64 10] h51) fun v53 h54 =>
  sliceK v53 fun a55 l55 c55 =>
  pushJ h54 1 [.int .u8 32] fun h66 =>
  bindN (appO Tryd.prog ro 22 22 (.slice a55 l55 c55) (.slice (some ⟨h54.next, 0, none⟩) 1 1) h66) fun v67 h68 =>
  sliceK v67 fun a69 l69 c69 =>
  bindN (loadO Tryd.prog 3 (.pointer (some ⟨p40, o40 + 1, none⟩)) h68) fun v70 h71 =>
  intK .i64 v70 fun n72 =>
  ifK ((apartB (touch (some (.slice a55 l55 c55))) (touch (some (.pointer (some ⟨p40, o40 + 1, none⟩)))) && true) && true) (bindO (call ro 24 [.slice a69 l69 c69, .int .i64 n72, .int .i64 10] h71) fun v73 h74 =>
  sliceK v73 fun a75 l75 c75 =>
  pushJ h74 1 [.int .u8 10] fun h80 =>
  bindO (appO Tryd.prog ro 22 22 (.slice a75 l75 c75) (.slice (some ⟨h74.next, 0, none⟩) 1 1) h80) fun v81 h82 =>
  sliceK v81 fun a83 l83 c83 =>
  bindO (call ro 21 [.int .i64 n39] h82) fun v87 h88 =>
  boolK v87 fun b89 =>
  ifK (!b89) (bindO (appO Tryd.prog ro 22 9 (.slice a83 l83 c83) (.string (⟨#[50, 53, 53, 10]⟩ : ByteArray)) h88) fun v90 h91 =>
  sliceK v90 fun a92 l92 c92 =>
  F10.J11 call lf ro n39 p40 o40 a92 l92 c92 h91) (F10.J11 call lf ro n39 p40 o40 a83 l83 c83 h88)) (.fail)

noncomputable def F10.PJ5 (kb : Int → Nat → Nat → Heap → Out) (e : Env) (h : Heap) : Out :=
  getK (e.get 1) fun w1 =>
  intK .i64 w1 fun n278 =>
  getK (e.get 2) fun w2 =>
  ptrK w2 fun p279 o279 =>
  kb n278 p279 o279 h

noncomputable def F10.J3 (call : CT) (lf ro : Nat) (n24 : Int) (p25 : Nat) (o25 : Nat) (h26 : Heap) : Out :=
  letJ (fun (b36 : Bool) (h37 : Heap) =>
  (ifK b36 (Out.ok (.tuple #[.slice none 0 0, .int .i64 3]) h37) (F10.J5 call lf ro n24 p25 o25 h37))) fun j38 =>
  bindO (call ro 21 [.int .i64 n24] h26) fun v280 h281 =>
  boolK v280 fun b282 =>
  ifK b282 (bindO (loadO Tryd.prog 22 (.pointer (some ⟨p25, o25 + 2, none⟩)) h281) fun v283 h284 =>
  sliceK v283 fun a285 l285 c285 =>
  bindO (call ro 22 [.slice a285 l285 c285, .func (.func 23) #[] #[]] h284) fun v286 h287 =>
  boolK v286 fun b288 =>
  j38 b288 h287) (j38 false h281)

noncomputable def F10.PJ3 (kb : Int → Nat → Nat → Heap → Out) (e : Env) (h : Heap) : Out :=
  getK (e.get 1) fun w1 =>
  intK .i64 w1 fun n289 =>
  getK (e.get 2) fun w2 =>
  ptrK w2 fun p290 o290 =>
  kb n289 p290 o290 h

noncomputable def F10.t (call : CT) (lf ro : Nat) (x0_0 : Int) (x0_1 : Int) (ax0_2 : Option Addr) (lx0_2 : Nat) (cx0_2 : Nat) (x1 : Int) (h : Heap) : Out :=
  pushJ h 1 [.int .i64 x0_0, .int .i64 x0_1, .slice ax0_2 lx0_2 cx0_2] fun h2 =>
  letJ (fun (b21 : Bool) (h22 : Heap) =>
  (ifK b21 (Out.ok (.tuple #[.slice none 0 0, .int .i64 1]) h22) (F10.J3 call lf ro x1 h.next 0 h22))) fun j23 =>
  bindO (loadO Tryd.prog 24 (.pointer (some ⟨h.next, 0, none⟩)) h2) fun v291 h292 =>
  aggK v291 fun q293 =>
  consK q293 fun x294 q295 =>
  intK .i64 x294 fun n296 =>
  consK q295 fun x297 q298 =>
  intK .i64 x297 fun n299 =>
  consK q298 fun x300 q301 =>
  sliceK x300 fun a302 l302 c302 =>
  nilK q301 <|
  bindO (call ro 19 [.agg #[.int .i64 n296, .int .i64 n299, .slice a302 l302 c302]] h292) fun v303 h304 =>
  intK .i64 v303 fun n305 =>
  ifK (n305 != 0) (j23 true h304) (bindO (call ro 20 [.int .i64 x1] h304) fun v306 h307 =>
  boolK v306 fun b308 =>
  j23 (!b308) h307)

noncomputable def F10.Ht (call : CT) (lf ro : Nat) (i : Nat) (e : Env) (h : Heap) : Out := ifK (i == 12) (F10.P12 (F10.L12 call lf ro lf) e h) (.fail)
noncomputable def F10.Ut (call : CT) (lf ro : Nat) (i : Nat) : Option (Env → Heap → Out) := ifJ (i == 11) (some (F10.PJ11 (F10.J11 call lf ro))) (ifJ (i == 5) (some (F10.PJ5 (F10.J5 call lf ro))) (ifJ (i == 3) (some (F10.PJ3 (F10.J3 call lf ro))) (none)))

noncomputable def F10.H12 (call : CT) (lf ro : Nat) (kb12 : Int → Nat → Nat → (Option Addr) → Nat → Nat → Int → Int → Heap → Out) (i : Nat) (e : Env) (h : Heap) : Out := ifK (i == 12) (F10.P12 (F10.L12 call lf ro lf) e h) (.fail)
noncomputable def F10.U12 (call : CT) (lf ro : Nat) (kb12 : Int → Nat → Nat → (Option Addr) → Nat → Nat → Int → Int → Heap → Out) (i : Nat) : Option (Env → Heap → Out) := ifJ (i == 13) (some (F10.PJ13 (F10.J13 call lf ro kb12))) (ifJ (i == 11) (some (F10.PJ11 (F10.J11 call lf ro))) (ifJ (i == 5) (some (F10.PJ5 (F10.J5 call lf ro))) (ifJ (i == 3) (some (F10.PJ3 (F10.J3 call lf ro))) (none))))

noncomputable def F10.C12 (call : CT) (lf ro : Nat) : COut → Out := blockK 0 (seqH Tryd.prog call ro (F10.Ht call lf ro) (F10.Ut call lf ro) (sub (codeOf Tryd.f10) [true, true, true, true, true, true, true, true, true]) (endK Tryd.prog Tryd.f10))

noncomputable def F10.K12 (call : CT) (lf ro : Nat) : COut → Out := blockK 0 (seqK Tryd.prog call lf ro (sub (codeOf Tryd.f10) [true, true, true, true, true, true, true, true, true]) (endK Tryd.prog Tryd.f10))

noncomputable def F10.CJ11 (call : CT) (lf ro : Nat) : COut → Out := endK Tryd.prog Tryd.f10

noncomputable def F10.KJ11 (call : CT) (lf ro : Nat) : COut → Out := endK Tryd.prog Tryd.f10

noncomputable def F10.CJ5 (call : CT) (lf ro : Nat) : COut → Out := endK Tryd.prog Tryd.f10

noncomputable def F10.KJ5 (call : CT) (lf ro : Nat) : COut → Out := endK Tryd.prog Tryd.f10

noncomputable def F10.CJ3 (call : CT) (lf ro : Nat) : COut → Out := endK Tryd.prog Tryd.f10

noncomputable def F10.KJ3 (call : CT) (lf ro : Nat) : COut → Out := endK Tryd.prog Tryd.f10

noncomputable def F10.CJ13 (call : CT) (lf ro : Nat) (kb12 : Int → Nat → Nat → (Option Addr) → Nat → Nat → Int → Int → Heap → Out) : COut → Out := outK (F10.P12 kb12) (fun i e h => F10.C12 call lf ro (.exit i e h)) (fun e h => F10.C12 call lf ro (.ret e h))

noncomputable def F10.KJ13 (call : CT) (lf ro : Nat) (kb12 : Int → Nat → Nat → (Option Addr) → Nat → Nat → Int → Int → Heap → Out) : COut → Out := outK (F10.P12 kb12) (fun i e h => F10.C12 call lf ro (.exit i e h)) (fun e h => F10.C12 call lf ro (.ret e h))

theorem F10.RJ13 (call : CT) (lf ro : Nat) (kb12 : Int → Nat → Nat → (Option Addr) → Nat → Nat → Int → Int → Heap → Out) (f : Nat → Option Value) (n109 : Int) (p110 : Nat) (o110 : Nat) (a111 : Option Addr) (l111 : Nat) (c111 : Nat) (n112 : Int) (n113 : Int) (h114 : Heap) :
    execH Tryd.prog call ro (F10.H12 call lf ro kb12) (F10.U12 call lf ro kb12) (sub (codeOf Tryd.f10) [true, true, true, true, true, true, true, true, false, true, false, false, true, true]) (EF 84 (updF (updF (updF (updF (updF f 1 (some (.int .i64 n109))) 2 (some (.pointer (some ⟨p110, o110, none⟩)))) 6 (some (.slice a111 l111 c111))) 47 (some (.int .i64 n112))) 48 (some (.int .i64 n113)))) h114 (F10.CJ13 call lf ro kb12) = F10.J13 call lf ro kb12 n109 p110 o110 a111 l111 c111 n112 n113 h114 := by kernel_rfl

theorem F10.CKJ13 (call : CT) (lf ro : Nat) (kb12 : Int → Nat → Nat → (Option Addr) → Nat → Nat → Int → Int → Heap → Out) : KLe 84 (F10.CJ13 call lf ro kb12) (F10.KJ13 call lf ro kb12) :=
  (KLe.refl _)

theorem F10.BJ13 (call : CT) (lf ro : Nat) (kb12 : Int → Nat → Nat → (Option Addr) → Nat → Nat → Int → Int → Heap → Out) : ∀ e h, Shaped 84 e → LeO (F10.PJ13 (F10.J13 call lf ro kb12) e h) (execK Tryd.prog call lf ro (sub (codeOf Tryd.f10) [true, true, true, true, true, true, true, true, false, true, false, false, true, true]) e h (F10.KJ13 call lf ro kb12)) := by
    rintro e h ⟨f, rfl⟩
    unfold F10.PJ13
    refine getK_le fun w1 g1 => ?_
    rw [EF_get (by decide)] at g1
    refine intK_le fun n265 z309 => ?_
    subst z309
    refine getK_le fun w2 g2 => ?_
    rw [EF_get (by decide)] at g2
    refine ptrK_le fun p266 o266 z310 => ?_
    subst z310
    refine getK_le fun w6 g6 => ?_
    rw [EF_get (by decide)] at g6
    refine sliceK_le fun a267 l267 c267 z311 => ?_
    subst z311
    refine getK_le fun w47 g47 => ?_
    rw [EF_get (by decide)] at g47
    refine intK_le fun n268 z312 => ?_
    subst z312
    refine getK_le fun w48 g48 => ?_
    rw [EF_get (by decide)] at g48
    refine intK_le fun n269 z313 => ?_
    subst z313
    have hr := F10.RJ13 call lf ro kb12 f n265 p266 o266 a267 l267 c267 n268 n269 h
    rw [updF_same g1, updF_same g2, updF_same g6, updF_same g47, updF_same g48] at hr
    exact cut_le (H := (F10.H12 call lf ro kb12)) (J := (F10.U12 call lf ro kb12)) (F10.CKJ13 call lf ro kb12) (hd_free rfl) hr

theorem F10.R12 (call : CT) (lf ro : Nat) (n : Nat) (f : Nat → Option Value) (n103 : Int) (p104 : Nat) (o104 : Nat) (a105 : Option Addr) (l105 : Nat) (c105 : Nat) (n106 : Int) (n107 : Int) (h108 : Heap) :
    execH Tryd.prog call ro (F10.H12 call lf ro (F10.L12 call lf ro n)) (F10.U12 call lf ro (F10.L12 call lf ro n)) (sub (codeOf Tryd.f10) [true, true, true, true, true, true, true, true, false, true, false, false]) (EF 84 (updF (updF (updF (updF (updF f 1 (some (.int .i64 n103))) 2 (some (.pointer (some ⟨p104, o104, none⟩)))) 6 (some (.slice a105 l105 c105))) 47 (some (.int .i64 n106))) 48 (some (.int .i64 n107)))) h108 (outK (F10.P12 (F10.L12 call lf ro n)) (fun i e h => F10.C12 call lf ro (.exit i e h)) (fun e h => F10.C12 call lf ro (.ret e h))) = F10.L12 call lf ro (n + 1) n103 p104 o104 a105 l105 c105 n106 n107 h108 := by kernel_rfl

theorem F10.CK12 (call : CT) (lf ro : Nat) : KLe 84 (F10.C12 call lf ro) (F10.K12 call lf ro) :=
  (KLe.block (KLe.seq (H := (F10.Ht call lf ro)) (J := (F10.Ut call lf ro)) (KLe.refl _) (hd_free rfl)))

theorem F10.B12 (call : CT) (lf ro : Nat) : ∀ n e h, Shaped 84 e → LeO (F10.P12 (F10.L12 call lf ro n) e h) (loopK (execK Tryd.prog call lf ro (sub (codeOf Tryd.f10) [true, true, true, true, true, true, true, true, false, true, false, false])) n e h (F10.K12 call lf ro)) := by
  refine loop_le (fun e h k k' hs hk => execK_mono _ e h k k' hs hk) (kb := fun n => F10.P12 (F10.L12 call lf ro n)) (kx := fun i e h => F10.C12 call lf ro (.exit i e h)) (kr := fun e h => F10.C12 call lf ro (.ret e h)) ?_ ?_ (fun i e h hs => (F10.CK12 call lf ro).exit i e h hs) (fun e h hs => (F10.CK12 call lf ro).ret e h hs)
  · rintro e h ⟨f, rfl⟩
    unfold F10.P12
    refine getK_le fun w1 g1 => ?_
    rw [EF_get (by decide)] at g1
    refine intK_le fun n270 z319 => ?_
    subst z319
    refine getK_le fun w2 g2 => ?_
    rw [EF_get (by decide)] at g2
    refine ptrK_le fun p271 o271 z320 => ?_
    subst z320
    refine getK_le fun w6 g6 => ?_
    rw [EF_get (by decide)] at g6
    refine sliceK_le fun a272 l272 c272 z321 => ?_
    subst z321
    refine getK_le fun w47 g47 => ?_
    rw [EF_get (by decide)] at g47
    refine intK_le fun n273 z322 => ?_
    subst z322
    refine getK_le fun w48 g48 => ?_
    rw [EF_get (by decide)] at g48
    refine intK_le fun n274 z323 => ?_
    subst z323
    exact LeO.refl _
  · rintro n e h ⟨f, rfl⟩
    unfold F10.P12
    refine getK_le fun w1 g1 => ?_
    rw [EF_get (by decide)] at g1
    refine intK_le fun n270 z324 => ?_
    subst z324
    refine getK_le fun w2 g2 => ?_
    rw [EF_get (by decide)] at g2
    refine ptrK_le fun p271 o271 z325 => ?_
    subst z325
    refine getK_le fun w6 g6 => ?_
    rw [EF_get (by decide)] at g6
    refine sliceK_le fun a272 l272 c272 z326 => ?_
    subst z326
    refine getK_le fun w47 g47 => ?_
    rw [EF_get (by decide)] at g47
    refine intK_le fun n273 z327 => ?_
    subst z327
    refine getK_le fun w48 g48 => ?_
    rw [EF_get (by decide)] at g48
    refine intK_le fun n274 z328 => ?_
    subst z328
    have hr := F10.R12 call lf ro n f n270 p271 o271 a272 l272 c272 n273 n274 h
    rw [updF_same g1, updF_same g2, updF_same g6, updF_same g47, updF_same g48] at hr
    exact round_le (H := (F10.H12 call lf ro (F10.L12 call lf ro n))) (J := (F10.U12 call lf ro (F10.L12 call lf ro n))) ⟨(hd_free rfl), ⟨(hd_free rfl), (fun e h hs => F10.BJ13 call lf ro (F10.L12 call lf ro n) e h hs)⟩⟩ hr

theorem F10.RJ11 (call : CT) (lf ro : Nat) (f : Nat → Option Value) (n93 : Int) (p94 : Nat) (o94 : Nat) (a95 : Option Addr) (l95 : Nat) (c95 : Nat) (h96 : Heap) :
    execH Tryd.prog call ro (F10.Ht call lf ro) (F10.Ut call lf ro) (sub (codeOf Tryd.f10) [true, true, true, true, true, true, true, true]) (EF 84 (updF (updF (updF f 1 (some (.int .i64 n93))) 2 (some (.pointer (some ⟨p94, o94, none⟩)))) 6 (some (.slice a95 l95 c95)))) h96 (F10.CJ11 call lf ro) = F10.J11 call lf ro n93 p94 o94 a95 l95 c95 h96 := by kernel_rfl

theorem F10.CKJ11 (call : CT) (lf ro : Nat) : KLe 84 (F10.CJ11 call lf ro) (F10.KJ11 call lf ro) :=
  (KLe.refl _)

theorem F10.BJ11 (call : CT) (lf ro : Nat) : ∀ e h, Shaped 84 e → LeO (F10.PJ11 (F10.J11 call lf ro) e h) (execK Tryd.prog call lf ro (sub (codeOf Tryd.f10) [true, true, true, true, true, true, true, true]) e h (F10.KJ11 call lf ro)) := by
    rintro e h ⟨f, rfl⟩
    unfold F10.PJ11
    refine getK_le fun w1 g1 => ?_
    rw [EF_get (by decide)] at g1
    refine intK_le fun n275 z329 => ?_
    subst z329
    refine getK_le fun w2 g2 => ?_
    rw [EF_get (by decide)] at g2
    refine ptrK_le fun p276 o276 z330 => ?_
    subst z330
    refine getK_le fun w6 g6 => ?_
    rw [EF_get (by decide)] at g6
    refine sliceK_le fun a277 l277 c277 z331 => ?_
    subst z331
    have hr := F10.RJ11 call lf ro f n275 p276 o276 a277 l277 c277 h
    rw [updF_same g1, updF_same g2, updF_same g6] at hr
    exact cut_le (H := (F10.Ht call lf ro)) (J := (F10.Ut call lf ro)) (F10.CKJ11 call lf ro) ⟨⟨(hd_free rfl), (fun e h hs => F10.B12 call lf ro  lf e h hs)⟩, (hd_free rfl)⟩ hr

theorem F10.RJ5 (call : CT) (lf ro : Nat) (f : Nat → Option Value) (n39 : Int) (p40 : Nat) (o40 : Nat) (h41 : Heap) :
    execH Tryd.prog call ro (F10.Ht call lf ro) (F10.Ut call lf ro) (sub (codeOf Tryd.f10) [true, true, true]) (EF 84 (updF (updF f 1 (some (.int .i64 n39))) 2 (some (.pointer (some ⟨p40, o40, none⟩))))) h41 (F10.CJ5 call lf ro) = F10.J5 call lf ro n39 p40 o40 h41 := by kernel_rfl

theorem F10.CKJ5 (call : CT) (lf ro : Nat) : KLe 84 (F10.CJ5 call lf ro) (F10.KJ5 call lf ro) :=
  (KLe.refl _)

theorem F10.BJ5 (call : CT) (lf ro : Nat) : ∀ e h, Shaped 84 e → LeO (F10.PJ5 (F10.J5 call lf ro) e h) (execK Tryd.prog call lf ro (sub (codeOf Tryd.f10) [true, true, true]) e h (F10.KJ5 call lf ro)) := by
    rintro e h ⟨f, rfl⟩
    unfold F10.PJ5
    refine getK_le fun w1 g1 => ?_
    rw [EF_get (by decide)] at g1
    refine intK_le fun n278 z335 => ?_
    subst z335
    refine getK_le fun w2 g2 => ?_
    rw [EF_get (by decide)] at g2
    refine ptrK_le fun p279 o279 z336 => ?_
    subst z336
    have hr := F10.RJ5 call lf ro f n278 p279 o279 h
    rw [updF_same g1, updF_same g2] at hr
    exact cut_le (H := (F10.Ht call lf ro)) (J := (F10.Ut call lf ro)) (F10.CKJ5 call lf ro) ⟨(hd_free rfl), ⟨(hd_free rfl), ⟨(hd_free rfl), ⟨(hd_free rfl), ⟨(hd_free rfl), (fun e h hs => F10.BJ11 call lf ro  e h hs)⟩⟩⟩⟩⟩ hr

theorem F10.RJ3 (call : CT) (lf ro : Nat) (f : Nat → Option Value) (n24 : Int) (p25 : Nat) (o25 : Nat) (h26 : Heap) :
    execH Tryd.prog call ro (F10.Ht call lf ro) (F10.Ut call lf ro) (sub (codeOf Tryd.f10) [true, true]) (EF 84 (updF (updF f 1 (some (.int .i64 n24))) 2 (some (.pointer (some ⟨p25, o25, none⟩))))) h26 (F10.CJ3 call lf ro) = F10.J3 call lf ro n24 p25 o25 h26 := by kernel_rfl

theorem F10.CKJ3 (call : CT) (lf ro : Nat) : KLe 84 (F10.CJ3 call lf ro) (F10.KJ3 call lf ro) :=
  (KLe.refl _)

theorem F10.BJ3 (call : CT) (lf ro : Nat) : ∀ e h, Shaped 84 e → LeO (F10.PJ3 (F10.J3 call lf ro) e h) (execK Tryd.prog call lf ro (sub (codeOf Tryd.f10) [true, true]) e h (F10.KJ3 call lf ro)) := by
    rintro e h ⟨f, rfl⟩
    unfold F10.PJ3
    refine getK_le fun w1 g1 => ?_
    rw [EF_get (by decide)] at g1
    refine intK_le fun n289 z339 => ?_
    subst z339
    refine getK_le fun w2 g2 => ?_
    rw [EF_get (by decide)] at g2
    refine ptrK_le fun p290 o290 z340 => ?_
    subst z340
    have hr := F10.RJ3 call lf ro f n289 p290 o290 h
    rw [updF_same g1, updF_same g2] at hr
    exact cut_le (H := (F10.Ht call lf ro)) (J := (F10.Ut call lf ro)) (F10.CKJ3 call lf ro) ⟨(hd_free rfl), (fun e h hs => F10.BJ5 call lf ro  e h hs)⟩ hr

theorem F10.le (call : CT) (lf ro : Nat) (x0_0 : Int) (x0_1 : Int) (ax0_2 : Option Addr) (lx0_2 : Nat) (cx0_2 : Nat) (x1 : Int) (h : Heap) : LeO (F10.t call lf ro x0_0 x0_1 ax0_2 lx0_2 cx0_2 x1 h) (bodyK Tryd.prog call lf ro Tryd.f10 [.agg #[.int .i64 x0_0, .int .i64 x0_1, .slice ax0_2 lx0_2 cx0_2], .int .i64 x1] h) :=
  body_le (c := codeOf Tryd.f10) (H := F10.Ht call lf ro) (J := F10.Ut call lf ro) rfl (Nat.le_of_ble_eq_true rfl) ⟨(hd_free rfl), ⟨(hd_free rfl), (fun e h hs => F10.BJ3 call lf ro  e h hs)⟩⟩ (by kernel_rfl)

/-! ### barscan/raster.CheckImage: function 19 -/

noncomputable def F19.t (call : CT) (lf ro : Nat) (x0_0 : Int) (x0_1 : Int) (ax0_2 : Option Addr) (lx0_2 : Nat) (cx0_2 : Nat) (h : Heap) : Out :=
  pushJ h 1 [.int .i64 x0_0, .int .i64 x0_1, .slice ax0_2 lx0_2 cx0_2] fun h2 =>
  letJ (fun (b21 : Bool) (h22 : Heap) =>
  (ifK b21 (Out.ok (.int .i64 1) h22) (Out.ok (.int .i64 0) h22))) fun j23 =>
  bindO (loadO Tryd.prog 3 (.pointer (some ⟨h.next, 0, none⟩)) h2) fun v24 h25 =>
  intK .i64 v24 fun n26 =>
  bindO (loadO Tryd.prog 3 (.pointer (some ⟨h.next, 1, none⟩)) h25) fun v27 h28 =>
  intK .i64 v27 fun n29 =>
  bindO (call ro 39 [.int .i64 n26, .int .i64 n29] h28) fun v30 h31 =>
  boolK v30 fun b32 =>
  ifK (!b32) (j23 true h31) (bindO (loadO Tryd.prog 22 (.pointer (some ⟨h.next, 2, none⟩)) h31) fun v33 h34 =>
  sliceK v33 fun a35 l35 c35 =>
  bindO (loadO Tryd.prog 3 (.pointer (some ⟨h.next, 0, none⟩)) h34) fun v36 h37 =>
  intK .i64 v36 fun n38 =>
  bindO (loadO Tryd.prog 3 (.pointer (some ⟨h.next, 1, none⟩)) h37) fun v39 h40 =>
  intK .i64 v39 fun n41 =>
  j23 ((l35 : Int) != (IntKind.i64.wrap (n38 * n41))) h40)

noncomputable def F19.Ht (call : CT) (lf ro : Nat) (i : Nat) (e : Env) (h : Heap) : Out := .fail
noncomputable def F19.Ut (call : CT) (lf ro : Nat) (i : Nat) : Option (Env → Heap → Out) := none

theorem F19.le (call : CT) (lf ro : Nat) (x0_0 : Int) (x0_1 : Int) (ax0_2 : Option Addr) (lx0_2 : Nat) (cx0_2 : Nat) (h : Heap) : LeO (F19.t call lf ro x0_0 x0_1 ax0_2 lx0_2 cx0_2 h) (bodyK Tryd.prog call lf ro Tryd.f19 [.agg #[.int .i64 x0_0, .int .i64 x0_1, .slice ax0_2 lx0_2 cx0_2]] h) :=
  body_le (c := codeOf Tryd.f19) (H := F19.Ht call lf ro) (J := F19.Ut call lf ro) rfl (Nat.le_of_ble_eq_true rfl) (hd_free rfl) (by kernel_rfl)

/-! ### barscan/netpbm.known: function 20 -/

noncomputable def F20.t (call : CT) (lf ro : Nat) (x0 : Int) (h : Heap) : Out :=
  letJ (fun (b4 : Bool) (h5 : Heap) =>
  (Out.ok (.bool b4) h5)) fun j6 =>
  bindO (call ro 21 [.int .i64 x0] h) fun v7 h8 =>
  boolK v7 fun b9 =>
  ifK b9 (j6 true h8) (ifK (x0 == 2) (j6 true h8) (j6 (x0 == 5) h8))

noncomputable def F20.Ht (call : CT) (lf ro : Nat) (i : Nat) (e : Env) (h : Heap) : Out := .fail
noncomputable def F20.Ut (call : CT) (lf ro : Nat) (i : Nat) : Option (Env → Heap → Out) := none

theorem F20.le (call : CT) (lf ro : Nat) (x0 : Int) (h : Heap) : LeO (F20.t call lf ro x0 h) (bodyK Tryd.prog call lf ro Tryd.f20 [.int .i64 x0] h) :=
  body_le (c := codeOf Tryd.f20) (H := F20.Ht call lf ro) (J := F20.Ut call lf ro) rfl (Nat.le_of_ble_eq_true rfl) (hd_free rfl) (by kernel_rfl)

/-! ### barscan/netpbm.bitmap: function 21 -/

noncomputable def F21.t (call : CT) (lf ro : Nat) (x0 : Int) (h : Heap) : Out :=
  letJ (fun (b1 : Bool) =>
  (Out.ok (.bool b1) h)) fun j2 =>
  ifK (x0 == 1) (j2 true) (j2 (x0 == 4))

noncomputable def F21.Ht (call : CT) (lf ro : Nat) (i : Nat) (e : Env) (h : Heap) : Out := .fail
noncomputable def F21.Ut (call : CT) (lf ro : Nat) (i : Nat) : Option (Env → Heap → Out) := none

theorem F21.le (call : CT) (lf ro : Nat) (x0 : Int) (h : Heap) : LeO (F21.t call lf ro x0 h) (bodyK Tryd.prog call lf ro Tryd.f21 [.int .i64 x0] h) :=
  body_le (c := codeOf Tryd.f21) (H := F21.Ht call lf ro) (J := F21.Ut call lf ro) rfl (Nat.le_of_ble_eq_true rfl) (hd_free rfl) (by kernel_rfl)

/-! ### slices.ContainsFunc[[]uint8,uint8]: function 22 -/

noncomputable def F22.t (call : CT) (lf ro : Nat) (ax0 : Option Addr) (lx0 : Nat) (cx0 : Nat) (h : Heap) : Out :=
  bindO (call ro 40 [.slice ax0 lx0 cx0, .func (.func 23) #[] #[]] h) fun v4 h5 =>
  intK .i64 v4 fun n6 =>
  Out.ok (.bool (decide (n6 ≥ 0))) h5

noncomputable def F22.Ht (call : CT) (lf ro : Nat) (i : Nat) (e : Env) (h : Heap) : Out := .fail
noncomputable def F22.Ut (call : CT) (lf ro : Nat) (i : Nat) : Option (Env → Heap → Out) := none

theorem F22.le (call : CT) (lf ro : Nat) (ax0 : Option Addr) (lx0 : Nat) (cx0 : Nat) (h : Heap) : LeO (F22.t call lf ro ax0 lx0 cx0 h) (bodyK Tryd.prog call lf ro Tryd.f22 [.slice ax0 lx0 cx0, .func (.func 23) #[] #[]] h) :=
  body_le (c := codeOf Tryd.f22) (H := F22.Ht call lf ro) (J := F22.Ut call lf ro) rfl (Nat.le_of_ble_eq_true rfl) (hd_free rfl) (by kernel_rfl)

/-! ### barscan/netpbm.Write$1: function 23 -/

noncomputable def F23.t (call : CT) (lf ro : Nat) (x0 : Int) (h : Heap) : Out :=
  letJ (fun (b1 : Bool) =>
  (Out.ok (.bool b1) h)) fun j2 =>
  ifK (x0 != 0) (j2 (x0 != 255)) (j2 false)

noncomputable def F23.Ht (call : CT) (lf ro : Nat) (i : Nat) (e : Env) (h : Heap) : Out := .fail
noncomputable def F23.Ut (call : CT) (lf ro : Nat) (i : Nat) : Option (Env → Heap → Out) := none

theorem F23.le (call : CT) (lf ro : Nat) (x0 : Int) (h : Heap) : LeO (F23.t call lf ro x0 h) (bodyK Tryd.prog call lf ro Tryd.f23 [.int .u8 x0] h) :=
  body_le (c := codeOf Tryd.f23) (H := F23.Ht call lf ro) (J := F23.Ut call lf ro) rfl (Nat.le_of_ble_eq_true rfl) (hd_free rfl) (by kernel_rfl)

/-! ### strconv.AppendInt: function 24 -/

noncomputable def F24.t (call : CT) (lf ro : Nat) (ax0 : Option Addr) (lx0 : Nat) (cx0 : Nat) (x1 : Int) (x2 : Int) (h : Heap) : Out :=
  bindO (call ro 41 [.slice ax0 lx0 cx0, .int .i64 x1, .int .i64 x2] h) fun v4 h5 =>
  sliceK v4 fun a6 l6 c6 =>
  Out.ok (.slice a6 l6 c6) h5

noncomputable def F24.Ht (call : CT) (lf ro : Nat) (i : Nat) (e : Env) (h : Heap) : Out := .fail
noncomputable def F24.Ut (call : CT) (lf ro : Nat) (i : Nat) : Option (Env → Heap → Out) := none

theorem F24.le (call : CT) (lf ro : Nat) (ax0 : Option Addr) (lx0 : Nat) (cx0 : Nat) (x1 : Int) (x2 : Int) (h : Heap) : LeO (F24.t call lf ro ax0 lx0 cx0 x1 x2 h) (bodyK Tryd.prog call lf ro Tryd.f24 [.slice ax0 lx0 cx0, .int .i64 x1, .int .i64 x2] h) :=
  body_le (c := codeOf Tryd.f24) (H := F24.Ht call lf ro) (J := F24.Ut call lf ro) rfl (Nat.le_of_ble_eq_true rfl) (hd_free rfl) (by kernel_rfl)

/-! ### barscan/netpbm.characters: function 25 -/

noncomputable def F25.J7 (call : CT) (lf ro : Nat) (kb2 : (Option Addr) → Nat → Nat → (Option Addr) → Nat → Nat → (Option Addr) → Nat → Nat → Int → Int → Heap → Out) (a23 : Option Addr) (l23 : Nat) (c23 : Nat) (a24 : Option Addr) (l24 : Nat) (c24 : Nat) (n25 : Int) (n26 : Int) (a27 : Option Addr) (l27 : Nat) (c27 : Nat) (n28 : Int) (n29 : Int) (h30 : Heap) : Out :=
  letJ (fun (a87 : Option Addr) (l87 : Nat) (c87 : Nat) (h88 : Heap) =>
  (kb2 a87 l87 c87 a24 l24 c24 a27 l27 c27 n28 (IntKind.i64.wrap (n29 + 1)) h88)) fun j89 =>
  pushJ h30 1 [.int .u8 n26] fun h136 =>
  bindO (appO Tryd.prog ro 22 22 (.slice a23 l23 c23) (.slice (some ⟨h30.next, 0, none⟩) 1 1) h136) fun v137 h138 =>
  sliceK v137 fun a139 l139 c139 =>
  letJ (fun (b140 : Bool) =>
  (ifK b140 (pushJ h138 1 [.int .u8 10] fun h142 =>
  bindO (appO Tryd.prog ro 22 22 (.slice a139 l139 c139) (.slice (some ⟨h138.next, 0, none⟩) 1 1) h142) fun v143 h144 =>
  sliceK v143 fun a145 l145 c145 =>
  j89 a145 l145 c145 h144) (j89 a139 l139 c139 h138))) fun j141 =>
  ifK ((Int.tmod n25 70) == 69) (j141 true) (j141 (n25 == (IntKind.i64.wrap ((l24 : Int) - 1))))

noncomputable def F25.PJ7 (kb : (Option Addr) → Nat → Nat → (Option Addr) → Nat → Nat → Int → Int → (Option Addr) → Nat → Nat → Int → Int → Heap → Out) (e : Env) (h : Heap) : Out :=
  getK (e.get 0) fun w0 =>
  sliceK w0 fun a146 l146 c146 =>
  getK (e.get 1) fun w1 =>
  sliceK w1 fun a147 l147 c147 =>
  getK (e.get 5) fun w5 =>
  intK .i64 w5 fun n148 =>
  getK (e.get 7) fun w7 =>
  intK .u8 w7 fun n149 =>
  getK (e.get 8) fun w8 =>
  sliceK w8 fun a150 l150 c150 =>
  getK (e.get 9) fun w9 =>
  intK .i64 w9 fun n151 =>
  getK (e.get 10) fun w10 =>
  intK .i64 w10 fun n152 =>
  kb a146 l146 c146 a147 l147 c147 n148 n149 a150 l150 c150 n151 n152 h

noncomputable def F25.J3 (call : CT) (lf ro : Nat) (kb2 : (Option Addr) → Nat → Nat → (Option Addr) → Nat → Nat → (Option Addr) → Nat → Nat → Int → Int → Heap → Out) (a7 : Option Addr) (l7 : Nat) (c7 : Nat) (a8 : Option Addr) (l8 : Nat) (c8 : Nat) (a9 : Option Addr) (l9 : Nat) (c9 : Nat) (n10 : Int) (n11 : Int) (h12 : Heap) : Out :=
  bindO (idxO Tryd.prog 22 (.slice a9 l9 c9) (.int .i64 n11) h12) fun v178 h179 =>
  bindO (loadO Tryd.prog 5 v178 h179) fun v180 h181 =>
  intK .u8 v180 fun n182 =>
  ifK (n182 == 0) (F25.J7 call lf ro kb2 a7 l7 c7 a8 l8 c8 n11 49 a9 l9 c9 n10 n11 h181) (F25.J7 call lf ro kb2 a7 l7 c7 a8 l8 c8 n11 48 a9 l9 c9 n10 n11 h181)

noncomputable def F25.PJ3 (kb : (Option Addr) → Nat → Nat → (Option Addr) → Nat → Nat → (Option Addr) → Nat → Nat → Int → Int → Heap → Out) (e : Env) (h : Heap) : Out :=
  getK (e.get 0) fun w0 =>
  sliceK w0 fun a183 l183 c183 =>
  getK (e.get 1) fun w1 =>
  sliceK w1 fun a184 l184 c184 =>
  getK (e.get 8) fun w8 =>
  sliceK w8 fun a185 l185 c185 =>
  getK (e.get 9) fun w9 =>
  intK .i64 w9 fun n186 =>
  getK (e.get 10) fun w10 =>
  intK .i64 w10 fun n187 =>
  kb a183 l183 c183 a184 l184 c184 a185 l185 c185 n186 n187 h

noncomputable def F25.L2 (call : CT) (lf ro : Nat) : Nat → (Option Addr) → Nat → Nat → (Option Addr) → Nat → Nat → (Option Addr) → Nat → Nat → Int → Int → Heap → Out
  | 0, _, _, _, _, _, _, _, _, _, _, _, _ => .fail
  | n + 1, a1, l1, c1, a2, l2, c2, a3, l3, c3, n4, n5, h6 =>
  ifK (decide (n5 < n4)) (F25.J3 call lf ro (F25.L2 call lf ro n) a1 l1 c1 a2 l2 c2 a3 l3 c3 n4 n5 h6) (Out.ok (.slice a1 l1 c1) h6)

noncomputable def F25.P2 (kb : (Option Addr) → Nat → Nat → (Option Addr) → Nat → Nat → (Option Addr) → Nat → Nat → Int → Int → Heap → Out) (e : Env) (h : Heap) : Out :=
  getK (e.get 0) fun w0 =>
  sliceK w0 fun a188 l188 c188 =>
  getK (e.get 1) fun w1 =>
  sliceK w1 fun a189 l189 c189 =>
  getK (e.get 8) fun w8 =>
  sliceK w8 fun a190 l190 c190 =>
  getK (e.get 9) fun w9 =>
  intK .i64 w9 fun n191 =>
  getK (e.get 10) fun w10 =>
  intK .i64 w10 fun n192 =>
  kb a188 l188 c188 a189 l189 c189 a190 l190 c190 n191 n192 h

noncomputable def F25.t (call : CT) (lf ro : Nat) (ax0 : Option Addr) (lx0 : Nat) (cx0 : Nat) (ax1 : Option Addr) (lx1 : Nat) (cx1 : Nat) (h : Heap) : Out :=
  F25.L2 call lf ro lf ax0 lx0 cx0 ax1 lx1 cx1 ax1 lx1 cx1 (lx1 : Int) 0 h

noncomputable def F25.Ht (call : CT) (lf ro : Nat) (i : Nat) (e : Env) (h : Heap) : Out := ifK (i == 2) (F25.P2 (F25.L2 call lf ro lf) e h) (.fail)
noncomputable def F25.Ut (call : CT) (lf ro : Nat) (i : Nat) : Option (Env → Heap → Out) := none

noncomputable def F25.H2 (call : CT) (lf ro : Nat) (kb2 : (Option Addr) → Nat → Nat → (Option Addr) → Nat → Nat → (Option Addr) → Nat → Nat → Int → Int → Heap → Out) (i : Nat) (e : Env) (h : Heap) : Out := ifK (i == 2) (F25.P2 (F25.L2 call lf ro lf) e h) (.fail)
noncomputable def F25.U2 (call : CT) (lf ro : Nat) (kb2 : (Option Addr) → Nat → Nat → (Option Addr) → Nat → Nat → (Option Addr) → Nat → Nat → Int → Int → Heap → Out) (i : Nat) : Option (Env → Heap → Out) := ifJ (i == 7) (some (F25.PJ7 (F25.J7 call lf ro kb2))) (ifJ (i == 3) (some (F25.PJ3 (F25.J3 call lf ro kb2))) (none))

noncomputable def F25.C2 (call : CT) (lf ro : Nat) : COut → Out := blockK 0 (seqH Tryd.prog call ro (F25.Ht call lf ro) (F25.Ut call lf ro) (sub (codeOf Tryd.f25) [true, true]) (endK Tryd.prog Tryd.f25))

noncomputable def F25.K2 (call : CT) (lf ro : Nat) : COut → Out := blockK 0 (seqK Tryd.prog call lf ro (sub (codeOf Tryd.f25) [true, true]) (endK Tryd.prog Tryd.f25))

noncomputable def F25.CJ7 (call : CT) (lf ro : Nat) (kb2 : (Option Addr) → Nat → Nat → (Option Addr) → Nat → Nat → (Option Addr) → Nat → Nat → Int → Int → Heap → Out) : COut → Out := blockK 1 (seqH Tryd.prog call ro (F25.H2 call lf ro kb2) (F25.U2 call lf ro kb2) (sub (codeOf Tryd.f25) [true, false, true, false, false, true, true, true]) (outK (F25.P2 kb2) (fun i e h => F25.C2 call lf ro (.exit i e h)) (fun e h => F25.C2 call lf ro (.ret e h))))

noncomputable def F25.KJ7 (call : CT) (lf ro : Nat) (kb2 : (Option Addr) → Nat → Nat → (Option Addr) → Nat → Nat → (Option Addr) → Nat → Nat → Int → Int → Heap → Out) : COut → Out := blockK 1 (seqK Tryd.prog call lf ro (sub (codeOf Tryd.f25) [true, false, true, false, false, true, true, true]) (outK (F25.P2 kb2) (fun i e h => F25.C2 call lf ro (.exit i e h)) (fun e h => F25.C2 call lf ro (.ret e h))))

noncomputable def F25.CJ3 (call : CT) (lf ro : Nat) (kb2 : (Option Addr) → Nat → Nat → (Option Addr) → Nat → Nat → (Option Addr) → Nat → Nat → Int → Int → Heap → Out) : COut → Out := outK (F25.P2 kb2) (fun i e h => F25.C2 call lf ro (.exit i e h)) (fun e h => F25.C2 call lf ro (.ret e h))

noncomputable def F25.KJ3 (call : CT) (lf ro : Nat) (kb2 : (Option Addr) → Nat → Nat → (Option Addr) → Nat → Nat → (Option Addr) → Nat → Nat → Int → Int → Heap → Out) : COut → Out := outK (F25.P2 kb2) (fun i e h => F25.C2 call lf ro (.exit i e h)) (fun e h => F25.C2 call lf ro (.ret e h))

theorem F25.RJ7 (call : CT) (lf ro : Nat) (kb2 : (Option Addr) → Nat → Nat → (Option Addr) → Nat → Nat → (Option Addr) → Nat → Nat → Int → Int → Heap → Out) (f : Nat → Option Value) (a23 : Option Addr) (l23 : Nat) (c23 : Nat) (a24 : Option Addr) (l24 : Nat) (c24 : Nat) (n25 : Int) (n26 : Int) (a27 : Option Addr) (l27 : Nat) (c27 : Nat) (n28 : Int) (n29 : Int) (h30 : Heap) :
    execH Tryd.prog call ro (F25.H2 call lf ro kb2) (F25.U2 call lf ro kb2) (sub (codeOf Tryd.f25) [true, false, true, false, false, true, true, false, false, true, true, true]) (EF 36 (updF (updF (updF (updF (updF (updF (updF f 0 (some (.slice a23 l23 c23))) 1 (some (.slice a24 l24 c24))) 5 (some (.int .i64 n25))) 7 (some (.int .u8 n26))) 8 (some (.slice a27 l27 c27))) 9 (some (.int .i64 n28))) 10 (some (.int .i64 n29)))) h30 (F25.CJ7 call lf ro kb2) = F25.J7 call lf ro kb2 a23 l23 c23 a24 l24 c24 n25 n26 a27 l27 c27 n28 n29 h30 := by kernel_rfl

theorem F25.CKJ7 (call : CT) (lf ro : Nat) (kb2 : (Option Addr) → Nat → Nat → (Option Addr) → Nat → Nat → (Option Addr) → Nat → Nat → Int → Int → Heap → Out) : KLe 36 (F25.CJ7 call lf ro kb2) (F25.KJ7 call lf ro kb2) :=
  (KLe.block (KLe.seq (H := (F25.H2 call lf ro kb2)) (J := (F25.U2 call lf ro kb2)) (KLe.refl _) (hd_free rfl)))

theorem F25.BJ7 (call : CT) (lf ro : Nat) (kb2 : (Option Addr) → Nat → Nat → (Option Addr) → Nat → Nat → (Option Addr) → Nat → Nat → Int → Int → Heap → Out) : ∀ e h, Shaped 36 e → LeO (F25.PJ7 (F25.J7 call lf ro kb2) e h) (execK Tryd.prog call lf ro (sub (codeOf Tryd.f25) [true, false, true, false, false, true, true, false, false, true, true, true]) e h (F25.KJ7 call lf ro kb2)) := by
    rintro e h ⟨f, rfl⟩
    unfold F25.PJ7
    refine getK_le fun w0 g0 => ?_
    rw [EF_get (by decide)] at g0
    refine sliceK_le fun a146 l146 c146 z193 => ?_
    subst z193
    refine getK_le fun w1 g1 => ?_
    rw [EF_get (by decide)] at g1
    refine sliceK_le fun a147 l147 c147 z194 => ?_
    subst z194
    refine getK_le fun w5 g5 => ?_
    rw [EF_get (by decide)] at g5
    refine intK_le fun n148 z195 => ?_
    subst z195
    refine getK_le fun w7 g7 => ?_
    rw [EF_get (by decide)] at g7
    refine intK_le fun n149 z196 => ?_
    subst z196
    refine getK_le fun w8 g8 => ?_
    rw [EF_get (by decide)] at g8
    refine sliceK_le fun a150 l150 c150 z197 => ?_
    subst z197
    refine getK_le fun w9 g9 => ?_
    rw [EF_get (by decide)] at g9
    refine intK_le fun n151 z198 => ?_
    subst z198
    refine getK_le fun w10 g10 => ?_
    rw [EF_get (by decide)] at g10
    refine intK_le fun n152 z199 => ?_
    subst z199
    have hr := F25.RJ7 call lf ro kb2 f a146 l146 c146 a147 l147 c147 n148 n149 a150 l150 c150 n151 n152 h
    rw [updF_same g0, updF_same g1, updF_same g5, updF_same g7, updF_same g8, updF_same g9, updF_same g10] at hr
    exact cut_le (H := (F25.H2 call lf ro kb2)) (J := (F25.U2 call lf ro kb2)) (F25.CKJ7 call lf ro kb2) (hd_free rfl) hr

theorem F25.RJ3 (call : CT) (lf ro : Nat) (kb2 : (Option Addr) → Nat → Nat → (Option Addr) → Nat → Nat → (Option Addr) → Nat → Nat → Int → Int → Heap → Out) (f : Nat → Option Value) (a7 : Option Addr) (l7 : Nat) (c7 : Nat) (a8 : Option Addr) (l8 : Nat) (c8 : Nat) (a9 : Option Addr) (l9 : Nat) (c9 : Nat) (n10 : Int) (n11 : Int) (h12 : Heap) :
    execH Tryd.prog call ro (F25.H2 call lf ro kb2) (F25.U2 call lf ro kb2) (sub (codeOf Tryd.f25) [true, false, true, false, false, true, true]) (EF 36 (updF (updF (updF (updF (updF f 0 (some (.slice a7 l7 c7))) 1 (some (.slice a8 l8 c8))) 8 (some (.slice a9 l9 c9))) 9 (some (.int .i64 n10))) 10 (some (.int .i64 n11)))) h12 (F25.CJ3 call lf ro kb2) = F25.J3 call lf ro kb2 a7 l7 c7 a8 l8 c8 a9 l9 c9 n10 n11 h12 := by kernel_rfl

theorem F25.CKJ3 (call : CT) (lf ro : Nat) (kb2 : (Option Addr) → Nat → Nat → (Option Addr) → Nat → Nat → (Option Addr) → Nat → Nat → Int → Int → Heap → Out) : KLe 36 (F25.CJ3 call lf ro kb2) (F25.KJ3 call lf ro kb2) :=
  (KLe.refl _)

theorem F25.BJ3 (call : CT) (lf ro : Nat) (kb2 : (Option Addr) → Nat → Nat → (Option Addr) → Nat → Nat → (Option Addr) → Nat → Nat → Int → Int → Heap → Out) : ∀ e h, Shaped 36 e → LeO (F25.PJ3 (F25.J3 call lf ro kb2) e h) (execK Tryd.prog call lf ro (sub (codeOf Tryd.f25) [true, false, true, false, false, true, true]) e h (F25.KJ3 call lf ro kb2)) := by
    rintro e h ⟨f, rfl⟩
    unfold F25.PJ3
    refine getK_le fun w0 g0 => ?_
    rw [EF_get (by decide)] at g0
    refine sliceK_le fun a183 l183 c183 z207 => ?_
    subst z207
    refine getK_le fun w1 g1 => ?_
    rw [EF_get (by decide)] at g1
    refine sliceK_le fun a184 l184 c184 z208 => ?_
    subst z208
    refine getK_le fun w8 g8 => ?_
    rw [EF_get (by decide)] at g8
    refine sliceK_le fun a185 l185 c185 z209 => ?_
    subst z209
    refine getK_le fun w9 g9 => ?_
    rw [EF_get (by decide)] at g9
    refine intK_le fun n186 z210 => ?_
    subst z210
    refine getK_le fun w10 g10 => ?_
    rw [EF_get (by decide)] at g10
    refine intK_le fun n187 z211 => ?_
    subst z211
    have hr := F25.RJ3 call lf ro kb2 f a183 l183 c183 a184 l184 c184 a185 l185 c185 n186 n187 h
    rw [updF_same g0, updF_same g1, updF_same g8, updF_same g9, updF_same g10] at hr
    exact cut_le (H := (F25.H2 call lf ro kb2)) (J := (F25.U2 call lf ro kb2)) (F25.CKJ3 call lf ro kb2) ⟨⟨(hd_free rfl), ⟨(hd_free rfl), ⟨(hd_free rfl), (fun e h hs => F25.BJ7 call lf ro kb2 e h hs)⟩⟩⟩, (hd_free rfl)⟩ hr

theorem F25.R2 (call : CT) (lf ro : Nat) (n : Nat) (f : Nat → Option Value) (a1 : Option Addr) (l1 : Nat) (c1 : Nat) (a2 : Option Addr) (l2 : Nat) (c2 : Nat) (a3 : Option Addr) (l3 : Nat) (c3 : Nat) (n4 : Int) (n5 : Int) (h6 : Heap) :
    execH Tryd.prog call ro (F25.H2 call lf ro (F25.L2 call lf ro n)) (F25.U2 call lf ro (F25.L2 call lf ro n)) (sub (codeOf Tryd.f25) [true, false, true, false, false]) (EF 36 (updF (updF (updF (updF (updF f 0 (some (.slice a1 l1 c1))) 1 (some (.slice a2 l2 c2))) 8 (some (.slice a3 l3 c3))) 9 (some (.int .i64 n4))) 10 (some (.int .i64 n5)))) h6 (outK (F25.P2 (F25.L2 call lf ro n)) (fun i e h => F25.C2 call lf ro (.exit i e h)) (fun e h => F25.C2 call lf ro (.ret e h))) = F25.L2 call lf ro (n + 1) a1 l1 c1 a2 l2 c2 a3 l3 c3 n4 n5 h6 := by kernel_rfl

theorem F25.CK2 (call : CT) (lf ro : Nat) : KLe 36 (F25.C2 call lf ro) (F25.K2 call lf ro) :=
  (KLe.block (KLe.seq (H := (F25.Ht call lf ro)) (J := (F25.Ut call lf ro)) (KLe.refl _) (hd_free rfl)))

theorem F25.B2 (call : CT) (lf ro : Nat) : ∀ n e h, Shaped 36 e → LeO (F25.P2 (F25.L2 call lf ro n) e h) (loopK (execK Tryd.prog call lf ro (sub (codeOf Tryd.f25) [true, false, true, false, false])) n e h (F25.K2 call lf ro)) := by
  refine loop_le (fun e h k k' hs hk => execK_mono _ e h k k' hs hk) (kb := fun n => F25.P2 (F25.L2 call lf ro n)) (kx := fun i e h => F25.C2 call lf ro (.exit i e h)) (kr := fun e h => F25.C2 call lf ro (.ret e h)) ?_ ?_ (fun i e h hs => (F25.CK2 call lf ro).exit i e h hs) (fun e h hs => (F25.CK2 call lf ro).ret e h hs)
  · rintro e h ⟨f, rfl⟩
    unfold F25.P2
    refine getK_le fun w0 g0 => ?_
    rw [EF_get (by decide)] at g0
    refine sliceK_le fun a188 l188 c188 z217 => ?_
    subst z217
    refine getK_le fun w1 g1 => ?_
    rw [EF_get (by decide)] at g1
    refine sliceK_le fun a189 l189 c189 z218 => ?_
    subst z218
    refine getK_le fun w8 g8 => ?_
    rw [EF_get (by decide)] at g8
    refine sliceK_le fun a190 l190 c190 z219 => ?_
    subst z219
    refine getK_le fun w9 g9 => ?_
    rw [EF_get (by decide)] at g9
    refine intK_le fun n191 z220 => ?_
    subst z220
    refine getK_le fun w10 g10 => ?_
    rw [EF_get (by decide)] at g10
    refine intK_le fun n192 z221 => ?_
    subst z221
    exact LeO.refl _
  · rintro n e h ⟨f, rfl⟩
    unfold F25.P2
    refine getK_le fun w0 g0 => ?_
    rw [EF_get (by decide)] at g0
    refine sliceK_le fun a188 l188 c188 z222 => ?_
    subst z222
    refine getK_le fun w1 g1 => ?_
    rw [EF_get (by decide)] at g1
    refine sliceK_le fun a189 l189 c189 z223 => ?_
    subst z223
    refine getK_le fun w8 g8 => ?_
    rw [EF_get (by decide)] at g8
    refine sliceK_le fun a190 l190 c190 z224 => ?_
    subst z224
    refine getK_le fun w9 g9 => ?_
    rw [EF_get (by decide)] at g9
    refine intK_le fun n191 z225 => ?_
    subst z225
    refine getK_le fun w10 g10 => ?_
    rw [EF_get (by decide)] at g10
    refine intK_le fun n192 z226 => ?_
    subst z226
    have hr := F25.R2 call lf ro n f a188 l188 c188 a189 l189 c189 a190 l190 c190 n191 n192 h
    rw [updF_same g0, updF_same g1, updF_same g8, updF_same g9, updF_same g10] at hr
    exact round_le (H := (F25.H2 call lf ro (F25.L2 call lf ro n))) (J := (F25.U2 call lf ro (F25.L2 call lf ro n))) ⟨(hd_free rfl), ⟨(hd_free rfl), (fun e h hs => F25.BJ3 call lf ro (F25.L2 call lf ro n) e h hs)⟩⟩ hr

theorem F25.le (call : CT) (lf ro : Nat) (ax0 : Option Addr) (lx0 : Nat) (cx0 : Nat) (ax1 : Option Addr) (lx1 : Nat) (cx1 : Nat) (h : Heap) : LeO (F25.t call lf ro ax0 lx0 cx0 ax1 lx1 cx1 h) (bodyK Tryd.prog call lf ro Tryd.f25 [.slice ax0 lx0 cx0, .slice ax1 lx1 cx1] h) :=
  body_le (c := codeOf Tryd.f25) (H := F25.Ht call lf ro) (J := F25.Ut call lf ro) rfl (Nat.le_of_ble_eq_true rfl) ⟨(hd_free rfl), ⟨⟨(hd_free rfl), (fun e h hs => F25.B2 call lf ro  lf e h hs)⟩, (hd_free rfl)⟩⟩ (by kernel_rfl)

/-! ### barscan/netpbm.numbers: function 26 -/

noncomputable def F26.J6 (call : CT) (lf ro : Nat) (kb2 : (Option Addr) → Nat → Nat → (Option Addr) → Nat → Nat → (Option Addr) → Nat → Nat → Int → Int → Heap → Out) (a29 : Option Addr) (l29 : Nat) (c29 : Nat) (a30 : Option Addr) (l30 : Nat) (c30 : Nat) (a31 : Option Addr) (l31 : Nat) (c31 : Nat) (n32 : Int) (n33 : Int) (b34 : Bool) (h35 : Heap) : Out :=
  letJ (fun (a68 : Option Addr) (l68 : Nat) (c68 : Nat) (h69 : Heap) =>
  (kb2 a68 l68 c68 a30 l30 c30 a31 l31 c31 n32 (IntKind.i64.wrap (n33 + 1)) h69)) fun j70 =>
  ifK b34 (pushJ h35 1 [.int .u8 10] fun h95 =>
  bindO (appO Tryd.prog ro 22 22 (.slice a29 l29 c29) (.slice (some ⟨h35.next, 0, none⟩) 1 1) h95) fun v96 h97 =>
  sliceK v96 fun a98 l98 c98 =>
  j70 a98 l98 c98 h97) (pushJ h35 1 [.int .u8 32] fun h99 =>
  bindO (appO Tryd.prog ro 22 22 (.slice a29 l29 c29) (.slice (some ⟨h35.next, 0, none⟩) 1 1) h99) fun v100 h101 =>
  sliceK v100 fun a102 l102 c102 =>
  j70 a102 l102 c102 h101)

noncomputable def F26.PJ6 (kb : (Option Addr) → Nat → Nat → (Option Addr) → Nat → Nat → (Option Addr) → Nat → Nat → Int → Int → Bool → Heap → Out) (e : Env) (h : Heap) : Out :=
  getK (e.get 0) fun w0 =>
  sliceK w0 fun a103 l103 c103 =>
  getK (e.get 1) fun w1 =>
  sliceK w1 fun a104 l104 c104 =>
  getK (e.get 7) fun w7 =>
  sliceK w7 fun a105 l105 c105 =>
  getK (e.get 8) fun w8 =>
  intK .i64 w8 fun n106 =>
  getK (e.get 9) fun w9 =>
  intK .i64 w9 fun n107 =>
  getK (e.get 27) fun w27 =>
  boolK w27 fun b108 =>
  kb a103 l103 c103 a104 l104 c104 a105 l105 c105 n106 n107 b108 h

noncomputable def F26.J3 (call : CT) (lf ro : Nat) (kb2 : (Option Addr) → Nat → Nat → (Option Addr) → Nat → Nat → (Option Addr) → Nat → Nat → Int → Int → Heap → Out) (a7 : Option Addr) (l7 : Nat) (c7 : Nat) (a8 : Option Addr) (l8 : Nat) (c8 : Nat) (a9 : Option Addr) (l9 : Nat) (c9 : Nat) (n10 : Int) (n11 : Int) (h12 : Heap) : Out :=
  bindO (idxO Tryd.prog 22 (.slice a9 l9 c9) (.int .i64 n11) h12) fun v146 h147 =>
  bindO (loadO Tryd.prog 5 v146 h147) fun v148 h149 =>
  intK .u8 v148 fun n150 =>
  bindO (call ro 24 [.slice a7 l7 c7, .int .i64 (IntKind.i64.wrap n150), .int .i64 10] h149) fun v154 h155 =>
  sliceK v154 fun a156 l156 c156 =>
  ifK ((Int.tmod n11 17) == 16) (F26.J6 call lf ro kb2 a156 l156 c156 a8 l8 c8 a9 l9 c9 n10 n11 true h155) (F26.J6 call lf ro kb2 a156 l156 c156 a8 l8 c8 a9 l9 c9 n10 n11 (n11 == (IntKind.i64.wrap ((l8 : Int) - 1))) h155)

noncomputable def F26.PJ3 (kb : (Option Addr) → Nat → Nat → (Option Addr) → Nat → Nat → (Option Addr) → Nat → Nat → Int → Int → Heap → Out) (e : Env) (h : Heap) : Out :=
  getK (e.get 0) fun w0 =>
  sliceK w0 fun a157 l157 c157 =>
  getK (e.get 1) fun w1 =>
  sliceK w1 fun a158 l158 c158 =>
  getK (e.get 7) fun w7 =>
  sliceK w7 fun a159 l159 c159 =>
  getK (e.get 8) fun w8 =>
  intK .i64 w8 fun n160 =>
  getK (e.get 9) fun w9 =>
  intK .i64 w9 fun n161 =>
  kb a157 l157 c157 a158 l158 c158 a159 l159 c159 n160 n161 h

noncomputable def F26.L2 (call : CT) (lf ro : Nat) : Nat → (Option Addr) → Nat → Nat → (Option Addr) → Nat → Nat → (Option Addr) → Nat → Nat → Int → Int → Heap → Out
  | 0, _, _, _, _, _, _, _, _, _, _, _, _ => .fail
  | n + 1, a1, l1, c1, a2, l2, c2, a3, l3, c3, n4, n5, h6 =>
  ifK (decide (n5 < n4)) (F26.J3 call lf ro (F26.L2 call lf ro n) a1 l1 c1 a2 l2 c2 a3 l3 c3 n4 n5 h6) (Out.ok (.slice a1 l1 c1) h6)

noncomputable def F26.P2 (kb : (Option Addr) → Nat → Nat → (Option Addr) → Nat → Nat → (Option Addr) → Nat → Nat → Int → Int → Heap → Out) (e : Env) (h : Heap) : Out :=
  getK (e.get 0) fun w0 =>
  sliceK w0 fun a162 l162 c162 =>
  getK (e.get 1) fun w1 =>
  sliceK w1 fun a163 l163 c163 =>
  getK (e.get 7) fun w7 =>
  sliceK w7 fun a164 l164 c164 =>
  getK (e.get 8) fun w8 =>
  intK .i64 w8 fun n165 =>
  getK (e.get 9) fun w9 =>
  intK .i64 w9 fun n166 =>
  kb a162 l162 c162 a163 l163 c163 a164 l164 c164 n165 n166 h

noncomputable def F26.t (call : CT) (lf ro : Nat) (ax0 : Option Addr) (lx0 : Nat) (cx0 : Nat) (ax1 : Option Addr) (lx1 : Nat) (cx1 : Nat) (h : Heap) : Out :=
  F26.L2 call lf ro lf ax0 lx0 cx0 ax1 lx1 cx1 ax1 lx1 cx1 (lx1 : Int) 0 h

noncomputable def F26.Ht (call : CT) (lf ro : Nat) (i : Nat) (e : Env) (h : Heap) : Out := ifK (i == 2) (F26.P2 (F26.L2 call lf ro lf) e h) (.fail)
noncomputable def F26.Ut (call : CT) (lf ro : Nat) (i : Nat) : Option (Env → Heap → Out) := none

noncomputable def F26.H2 (call : CT) (lf ro : Nat) (kb2 : (Option Addr) → Nat → Nat → (Option Addr) → Nat → Nat → (Option Addr) → Nat → Nat → Int → Int → Heap → Out) (i : Nat) (e : Env) (h : Heap) : Out := ifK (i == 2) (F26.P2 (F26.L2 call lf ro lf) e h) (.fail)
noncomputable def F26.U2 (call : CT) (lf ro : Nat) (kb2 : (Option Addr) → Nat → Nat → (Option Addr) → Nat → Nat → (Option Addr) → Nat → Nat → Int → Int → Heap → Out) (i : Nat) : Option (Env → Heap → Out) := ifJ (i == 6) (some (F26.PJ6 (F26.J6 call lf ro kb2))) (ifJ (i == 3) (some (F26.PJ3 (F26.J3 call lf ro kb2))) (none))

noncomputable def F26.C2 (call : CT) (lf ro : Nat) : COut → Out := blockK 0 (seqH Tryd.prog call ro (F26.Ht call lf ro) (F26.Ut call lf ro) (sub (codeOf Tryd.f26) [true, true]) (endK Tryd.prog Tryd.f26))

noncomputable def F26.K2 (call : CT) (lf ro : Nat) : COut → Out := blockK 0 (seqK Tryd.prog call lf ro (sub (codeOf Tryd.f26) [true, true]) (endK Tryd.prog Tryd.f26))

noncomputable def F26.CJ6 (call : CT) (lf ro : Nat) (kb2 : (Option Addr) → Nat → Nat → (Option Addr) → Nat → Nat → (Option Addr) → Nat → Nat → Int → Int → Heap → Out) : COut → Out := blockK 1 (seqH Tryd.prog call ro (F26.H2 call lf ro kb2) (F26.U2 call lf ro kb2) (sub (codeOf Tryd.f26) [true, false, true, false, false, true, true, true]) (outK (F26.P2 kb2) (fun i e h => F26.C2 call lf ro (.exit i e h)) (fun e h => F26.C2 call lf ro (.ret e h))))

noncomputable def F26.KJ6 (call : CT) (lf ro : Nat) (kb2 : (Option Addr) → Nat → Nat → (Option Addr) → Nat → Nat → (Option Addr) → Nat → Nat → Int → Int → Heap → Out) : COut → Out := blockK 1 (seqK Tryd.prog call lf ro (sub (codeOf Tryd.f26) [true, false, true, false, false, true, true, true]) (outK (F26.P2 kb2) (fun i e h => F26.C2 call lf ro (.exit i e h)) (fun e h => F26.C2 call lf ro (.ret e h))))

noncomputable def F26.CJ3 (call : CT) (lf ro : Nat) (kb2 : (Option Addr) → Nat → Nat → (Option Addr) → Nat → Nat → (Option Addr) → Nat → Nat → Int → Int → Heap → Out) : COut → Out := outK (F26.P2 kb2) (fun i e h => F26.C2 call lf ro (.exit i e h)) (fun e h => F26.C2 call lf ro (.ret e h))

noncomputable def F26.KJ3 (call : CT) (lf ro : Nat) (kb2 : (Option Addr) → Nat → Nat → (Option Addr) → Nat → Nat → (Option Addr) → Nat → Nat → Int → Int → Heap → Out) : COut → Out := outK (F26.P2 kb2) (fun i e h => F26.C2 call lf ro (.exit i e h)) (fun e h => F26.C2 call lf ro (.ret e h))

theorem F26.RJ6 (call : CT) (lf ro : Nat) (kb2 : (Option Addr) → Nat → Nat → (Option Addr) → Nat → Nat → (Option Addr) → Nat → Nat → Int → Int → Heap → Out) (f : Nat → Option Value) (a29 : Option Addr) (l29 : Nat) (c29 : Nat) (a30 : Option Addr) (l30 : Nat) (c30 : Nat) (a31 : Option Addr) (l31 : Nat) (c31 : Nat) (n32 : Int) (n33 : Int) (b34 : Bool) (h35 : Heap) :
    execH Tryd.prog call ro (F26.H2 call lf ro kb2) (F26.U2 call lf ro kb2) (sub (codeOf Tryd.f26) [true, false, true, false, false, true, true, false, false, true, true, true]) (EF 36 (updF (updF (updF (updF (updF (updF f 0 (some (.slice a29 l29 c29))) 1 (some (.slice a30 l30 c30))) 7 (some (.slice a31 l31 c31))) 8 (some (.int .i64 n32))) 9 (some (.int .i64 n33))) 27 (some (.bool b34)))) h35 (F26.CJ6 call lf ro kb2) = F26.J6 call lf ro kb2 a29 l29 c29 a30 l30 c30 a31 l31 c31 n32 n33 b34 h35 := by kernel_rfl

theorem F26.CKJ6 (call : CT) (lf ro : Nat) (kb2 : (Option Addr) → Nat → Nat → (Option Addr) → Nat → Nat → (Option Addr) → Nat → Nat → Int → Int → Heap → Out) : KLe 36 (F26.CJ6 call lf ro kb2) (F26.KJ6 call lf ro kb2) :=
  (KLe.block (KLe.seq (H := (F26.H2 call lf ro kb2)) (J := (F26.U2 call lf ro kb2)) (KLe.refl _) (hd_free rfl)))

theorem F26.BJ6 (call : CT) (lf ro : Nat) (kb2 : (Option Addr) → Nat → Nat → (Option Addr) → Nat → Nat → (Option Addr) → Nat → Nat → Int → Int → Heap → Out) : ∀ e h, Shaped 36 e → LeO (F26.PJ6 (F26.J6 call lf ro kb2) e h) (execK Tryd.prog call lf ro (sub (codeOf Tryd.f26) [true, false, true, false, false, true, true, false, false, true, true, true]) e h (F26.KJ6 call lf ro kb2)) := by
    rintro e h ⟨f, rfl⟩
    unfold F26.PJ6
    refine getK_le fun w0 g0 => ?_
    rw [EF_get (by decide)] at g0
    refine sliceK_le fun a103 l103 c103 z167 => ?_
    subst z167
    refine getK_le fun w1 g1 => ?_
    rw [EF_get (by decide)] at g1
    refine sliceK_le fun a104 l104 c104 z168 => ?_
    subst z168
    refine getK_le fun w7 g7 => ?_
    rw [EF_get (by decide)] at g7
    refine sliceK_le fun a105 l105 c105 z169 => ?_
    subst z169
    refine getK_le fun w8 g8 => ?_
    rw [EF_get (by decide)] at g8
    refine intK_le fun n106 z170 => ?_
    subst z170
    refine getK_le fun w9 g9 => ?_
    rw [EF_get (by decide)] at g9
    refine intK_le fun n107 z171 => ?_
    subst z171
    refine getK_le fun w27 g27 => ?_
    rw [EF_get (by decide)] at g27
    refine boolK_le fun b108 z172 => ?_
    subst z172
    have hr := F26.RJ6 call lf ro kb2 f a103 l103 c103 a104 l104 c104 a105 l105 c105 n106 n107 b108 h
    rw [updF_same g0, updF_same g1, updF_same g7, updF_same g8, updF_same g9, updF_same g27] at hr
    exact cut_le (H := (F26.H2 call lf ro kb2)) (J := (F26.U2 call lf ro kb2)) (F26.CKJ6 call lf ro kb2) (hd_free rfl) hr

theorem F26.RJ3 (call : CT) (lf ro : Nat) (kb2 : (Option Addr) → Nat → Nat → (Option Addr) → Nat → Nat → (Option Addr) → Nat → Nat → Int → Int → Heap → Out) (f : Nat → Option Value) (a7 : Option Addr) (l7 : Nat) (c7 : Nat) (a8 : Option Addr) (l8 : Nat) (c8 : Nat) (a9 : Option Addr) (l9 : Nat) (c9 : Nat) (n10 : Int) (n11 : Int) (h12 : Heap) :
    execH Tryd.prog call ro (F26.H2 call lf ro kb2) (F26.U2 call lf ro kb2) (sub (codeOf Tryd.f26) [true, false, true, false, false, true, true]) (EF 36 (updF (updF (updF (updF (updF f 0 (some (.slice a7 l7 c7))) 1 (some (.slice a8 l8 c8))) 7 (some (.slice a9 l9 c9))) 8 (some (.int .i64 n10))) 9 (some (.int .i64 n11)))) h12 (F26.CJ3 call lf ro kb2) = F26.J3 call lf ro kb2 a7 l7 c7 a8 l8 c8 a9 l9 c9 n10 n11 h12 := by kernel_rfl

theorem F26.CKJ3 (call : CT) (lf ro : Nat) (kb2 : (Option Addr) → Nat → Nat → (Option Addr) → Nat → Nat → (Option Addr) → Nat → Nat → Int → Int → Heap → Out) : KLe 36 (F26.CJ3 call lf ro kb2) (F26.KJ3 call lf ro kb2) :=
  (KLe.refl _)

theorem F26.BJ3 (call : CT) (lf ro : Nat) (kb2 : (Option Addr) → Nat → Nat → (Option Addr) → Nat → Nat → (Option Addr) → Nat → Nat → Int → Int → Heap → Out) : ∀ e h, Shaped 36 e → LeO (F26.PJ3 (F26.J3 call lf ro kb2) e h) (execK Tryd.prog call lf ro (sub (codeOf Tryd.f26) [true, false, true, false, false, true, true]) e h (F26.KJ3 call lf ro kb2)) := by
    rintro e h ⟨f, rfl⟩
    unfold F26.PJ3
    refine getK_le fun w0 g0 => ?_
    rw [EF_get (by decide)] at g0
    refine sliceK_le fun a157 l157 c157 z179 => ?_
    subst z179
    refine getK_le fun w1 g1 => ?_
    rw [EF_get (by decide)] at g1
    refine sliceK_le fun a158 l158 c158 z180 => ?_
    subst z180
    refine getK_le fun w7 g7 => ?_
    rw [EF_get (by decide)] at g7
    refine sliceK_le fun a159 l159 c159 z181 => ?_
    subst z181
    refine getK_le fun w8 g8 => ?_
    rw [EF_get (by decide)] at g8
    refine intK_le fun n160 z182 => ?_
    subst z182
    refine getK_le fun w9 g9 => ?_
    rw [EF_get (by decide)] at g9
    refine intK_le fun n161 z183 => ?_
    subst z183
    have hr := F26.RJ3 call lf ro kb2 f a157 l157 c157 a158 l158 c158 a159 l159 c159 n160 n161 h
    rw [updF_same g0, updF_same g1, updF_same g7, updF_same g8, updF_same g9] at hr
    exact cut_le (H := (F26.H2 call lf ro kb2)) (J := (F26.U2 call lf ro kb2)) (F26.CKJ3 call lf ro kb2) ⟨⟨(hd_free rfl), ⟨(hd_free rfl), ⟨(hd_free rfl), (fun e h hs => F26.BJ6 call lf ro kb2 e h hs)⟩⟩⟩, (hd_free rfl)⟩ hr

theorem F26.R2 (call : CT) (lf ro : Nat) (n : Nat) (f : Nat → Option Value) (a1 : Option Addr) (l1 : Nat) (c1 : Nat) (a2 : Option Addr) (l2 : Nat) (c2 : Nat) (a3 : Option Addr) (l3 : Nat) (c3 : Nat) (n4 : Int) (n5 : Int) (h6 : Heap) :
    execH Tryd.prog call ro (F26.H2 call lf ro (F26.L2 call lf ro n)) (F26.U2 call lf ro (F26.L2 call lf ro n)) (sub (codeOf Tryd.f26) [true, false, true, false, false]) (EF 36 (updF (updF (updF (updF (updF f 0 (some (.slice a1 l1 c1))) 1 (some (.slice a2 l2 c2))) 7 (some (.slice a3 l3 c3))) 8 (some (.int .i64 n4))) 9 (some (.int .i64 n5)))) h6 (outK (F26.P2 (F26.L2 call lf ro n)) (fun i e h => F26.C2 call lf ro (.exit i e h)) (fun e h => F26.C2 call lf ro (.ret e h))) = F26.L2 call lf ro (n + 1) a1 l1 c1 a2 l2 c2 a3 l3 c3 n4 n5 h6 := by kernel_rfl

theorem F26.CK2 (call : CT) (lf ro : Nat) : KLe 36 (F26.C2 call lf ro) (F26.K2 call lf ro) :=
  (KLe.block (KLe.seq (H := (F26.Ht call lf ro)) (J := (F26.Ut call lf ro)) (KLe.refl _) (hd_free rfl)))

theorem F26.B2 (call : CT) (lf ro : Nat) : ∀ n e h, Shaped 36 e → LeO (F26.P2 (F26.L2 call lf ro n) e h) (loopK (execK Tryd.prog call lf ro (sub (codeOf Tryd.f26) [true, false, true, false, false])) n e h (F26.K2 call lf ro)) := by
  refine loop_le (fun e h k k' hs hk => execK_mono _ e h k k' hs hk) (kb := fun n => F26.P2 (F26.L2 call lf ro n)) (kx := fun i e h => F26.C2 call lf ro (.exit i e h)) (kr := fun e h => F26.C2 call lf ro (.ret e h)) ?_ ?_ (fun i e h hs => (F26.CK2 call lf ro).exit i e h hs) (fun e h hs => (F26.CK2 call lf ro).ret e h hs)
  · rintro e h ⟨f, rfl⟩
    unfold F26.P2
    refine getK_le fun w0 g0 => ?_
    rw [EF_get (by decide)] at g0
    refine sliceK_le fun a162 l162 c162 z189 => ?_
    subst z189
    refine getK_le fun w1 g1 => ?_
    rw [EF_get (by decide)] at g1
    refine sliceK_le fun a163 l163 c163 z190 => ?_
    subst z190
    refine getK_le fun w7 g7 => ?_
    rw [EF_get (by decide)] at g7
    refine sliceK_le fun a164 l164 c164 z191 => ?_
    subst z191
    refine getK_le fun w8 g8 => ?_
    rw [EF_get (by decide)] at g8
    refine intK_le fun n165 z192 => ?_
    subst z192
    refine getK_le fun w9 g9 => ?_
    rw [EF_get (by decide)] at g9
    refine intK_le fun n166 z193 => ?_
    subst z193
    exact LeO.refl _
  · rintro n e h ⟨f, rfl⟩
    unfold F26.P2
    refine getK_le fun w0 g0 => ?_
    rw [EF_get (by decide)] at g0
    refine sliceK_le fun a162 l162 c162 z194 => ?_
    subst z194
    refine getK_le fun w1 g1 => ?_
    rw [EF_get (by decide)] at g1
    refine sliceK_le fun a163 l163 c163 z195 => ?_
    subst z195
    refine getK_le fun w7 g7 => ?_
    rw [EF_get (by decide)] at g7
    refine sliceK_le fun a164 l164 c164 z196 => ?_
    subst z196
    refine getK_le fun w8 g8 => ?_
    rw [EF_get (by decide)] at g8
    refine intK_le fun n165 z197 => ?_
    subst z197
    refine getK_le fun w9 g9 => ?_
    rw [EF_get (by decide)] at g9
    refine intK_le fun n166 z198 => ?_
    subst z198
    have hr := F26.R2 call lf ro n f a162 l162 c162 a163 l163 c163 a164 l164 c164 n165 n166 h
    rw [updF_same g0, updF_same g1, updF_same g7, updF_same g8, updF_same g9] at hr
    exact round_le (H := (F26.H2 call lf ro (F26.L2 call lf ro n))) (J := (F26.U2 call lf ro (F26.L2 call lf ro n))) ⟨(hd_free rfl), ⟨(hd_free rfl), (fun e h hs => F26.BJ3 call lf ro (F26.L2 call lf ro n) e h hs)⟩⟩ hr

theorem F26.le (call : CT) (lf ro : Nat) (ax0 : Option Addr) (lx0 : Nat) (cx0 : Nat) (ax1 : Option Addr) (lx1 : Nat) (cx1 : Nat) (h : Heap) : LeO (F26.t call lf ro ax0 lx0 cx0 ax1 lx1 cx1 h) (bodyK Tryd.prog call lf ro Tryd.f26 [.slice ax0 lx0 cx0, .slice ax1 lx1 cx1] h) :=
  body_le (c := codeOf Tryd.f26) (H := F26.Ht call lf ro) (J := F26.Ut call lf ro) rfl (Nat.le_of_ble_eq_true rfl) ⟨(hd_free rfl), ⟨⟨(hd_free rfl), (fun e h hs => F26.B2 call lf ro  lf e h hs)⟩, (hd_free rfl)⟩⟩ (by kernel_rfl)

/-! ### barscan/netpbm.packed: function 27 -/

noncomputable def F27.J7 (call : CT) (lf ro : Nat) (kb2 : (Option Addr) → Nat → Nat → (Option Addr) → Nat → Nat → Int → Heap → Out) (kb6 : (Option Addr) → Nat → Nat → (Option Addr) → Nat → Nat → Int → Int → Int → Heap → Out) (a15 : Option Addr) (l15 : Nat) (c15 : Nat) (a16 : Option Addr) (l16 : Nat) (c16 : Nat) (n17 : Int) (n18 : Int) (n19 : Int) (h20 : Heap) : Out :=
  letJ (fun (n237 : Int) (h238 : Heap) =>
  (kb6 a15 l15 c15 a16 l16 c16 n17 n237 (IntKind.i64.wrap (n19 + 1)) h238)) fun j239 =>
  letJ (fun (b245 : Bool) (h246 : Heap) =>
  (ifK b245 (j239 (bOr .u8 (IntKind.u8.wrap (n18 * 2)) 1) h246) (j239 (IntKind.u8.wrap (n18 * 2)) h246))) fun j247 =>
  ifK (decide (IntKind.i64.wrap (n17 + n19) < (l16 : Int))) (bindO (idxO Tryd.prog 22 (.slice a16 l16 c16) (.int .i64 (IntKind.i64.wrap (n17 + n19))) h20) fun v248 h249 =>
  bindO (loadO Tryd.prog 5 v248 h249) fun v250 h251 =>
  intK .u8 v250 fun n252 =>
  j247 (n252 == 0) h251) (j247 false h20)

noncomputable def F27.PJ7 (kb : (Option Addr) → Nat → Nat → (Option Addr) → Nat → Nat → Int → Int → Int → Heap → Out) (e : Env) (h : Heap) : Out :=
  getK (e.get 0) fun w0 =>
  sliceK w0 fun a253 l253 c253 =>
  getK (e.get 1) fun w1 =>
  sliceK w1 fun a254 l254 c254 =>
  getK (e.get 5) fun w5 =>
  intK .i64 w5 fun n255 =>
  getK (e.get 6) fun w6 =>
  intK .u8 w6 fun n256 =>
  getK (e.get 14) fun w14 =>
  intK .i64 w14 fun n257 =>
  kb a253 l253 c253 a254 l254 c254 n255 n256 n257 h

noncomputable def F27.L6 (call : CT) (lf ro : Nat) (kb2 : (Option Addr) → Nat → Nat → (Option Addr) → Nat → Nat → Int → Heap → Out) : Nat → (Option Addr) → Nat → Nat → (Option Addr) → Nat → Nat → Int → Int → Int → Heap → Out
  | 0, _, _, _, _, _, _, _, _, _, _ => .fail
  | n + 1, a9, l9, c9, a10, l10, c10, n11, n12, n13, h14 =>
  ifK (decide (n13 < 8)) (F27.J7 call lf ro kb2 (F27.L6 call lf ro kb2 n) a9 l9 c9 a10 l10 c10 n11 n12 n13 h14) (pushJ h14 1 [.int .u8 n12] fun h286 =>
  bindO (appO Tryd.prog ro 22 22 (.slice a9 l9 c9) (.slice (some ⟨h14.next, 0, none⟩) 1 1) h286) fun v287 h288 =>
  sliceK v287 fun a289 l289 c289 =>
  kb2 a289 l289 c289 a10 l10 c10 (IntKind.i64.wrap (n11 + 8)) h288)

noncomputable def F27.P6 (kb : (Option Addr) → Nat → Nat → (Option Addr) → Nat → Nat → Int → Int → Int → Heap → Out) (e : Env) (h : Heap) : Out :=
  getK (e.get 0) fun w0 =>
  sliceK w0 fun a290 l290 c290 =>
  getK (e.get 1) fun w1 =>
  sliceK w1 fun a291 l291 c291 =>
  getK (e.get 5) fun w5 =>
  intK .i64 w5 fun n292 =>
  getK (e.get 6) fun w6 =>
  intK .u8 w6 fun n293 =>
  getK (e.get 14) fun w14 =>
  intK .i64 w14 fun n294 =>
  kb a290 l290 c290 a291 l291 c291 n292 n293 n294 h

noncomputable def F27.J4 (call : CT) (lf ro : Nat) (kb2 : (Option Addr) → Nat → Nat → (Option Addr) → Nat → Nat → Int → Heap → Out) (a5 : Option Addr) (l5 : Nat) (c5 : Nat) (a6 : Option Addr) (l6 : Nat) (c6 : Nat) (n7 : Int) (h8 : Heap) : Out :=
  F27.L6 call lf ro kb2 lf a5 l5 c5 a6 l6 c6 n7 0 0 h8

noncomputable def F27.PJ4 (kb : (Option Addr) → Nat → Nat → (Option Addr) → Nat → Nat → Int → Heap → Out) (e : Env) (h : Heap) : Out :=
  getK (e.get 0) fun w0 =>
  sliceK w0 fun a295 l295 c295 =>
  getK (e.get 1) fun w1 =>
  sliceK w1 fun a296 l296 c296 =>
  getK (e.get 5) fun w5 =>
  intK .i64 w5 fun n297 =>
  kb a295 l295 c295 a296 l296 c296 n297 h

noncomputable def F27.L2 (call : CT) (lf ro : Nat) : Nat → (Option Addr) → Nat → Nat → (Option Addr) → Nat → Nat → Int → Heap → Out
  | 0, _, _, _, _, _, _, _, _ => .fail
  | n + 1, a1, l1, c1, a2, l2, c2, n3, h4 =>
  ifK (decide (n3 < (l2 : Int))) (F27.J4 call lf ro (F27.L2 call lf ro n) a1 l1 c1 a2 l2 c2 n3 h4) (Out.ok (.slice a1 l1 c1) h4)

noncomputable def F27.P2 (kb : (Option Addr) → Nat → Nat → (Option Addr) → Nat → Nat → Int → Heap → Out) (e : Env) (h : Heap) : Out :=
  getK (e.get 0) fun w0 =>
  sliceK w0 fun a298 l298 c298 =>
  getK (e.get 1) fun w1 =>
  sliceK w1 fun a299 l299 c299 =>
  getK (e.get 5) fun w5 =>
  intK .i64 w5 fun n300 =>
  kb a298 l298 c298 a299 l299 c299 n300 h

noncomputable def F27.t (call : CT) (lf ro : Nat) (ax0 : Option Addr) (lx0 : Nat) (cx0 : Nat) (ax1 : Option Addr) (lx1 : Nat) (cx1 : Nat) (h : Heap) : Out :=
  F27.L2 call lf ro lf ax0 lx0 cx0 ax1 lx1 cx1 0 h

noncomputable def F27.Ht (call : CT) (lf ro : Nat) (i : Nat) (e : Env) (h : Heap) : Out := ifK (i == 2) (F27.P2 (F27.L2 call lf ro lf) e h) (.fail)
noncomputable def F27.Ut (call : CT) (lf ro : Nat) (i : Nat) : Option (Env → Heap → Out) := none

noncomputable def F27.H6 (call : CT) (lf ro : Nat) (kb2 : (Option Addr) → Nat → Nat → (Option Addr) → Nat → Nat → Int → Heap → Out) (kb6 : (Option Addr) → Nat → Nat → (Option Addr) → Nat → Nat → Int → Int → Int → Heap → Out) (i : Nat) (e : Env) (h : Heap) : Out := ifK (i == 6) (F27.P6 (F27.L6 call lf ro kb2 lf) e h) (ifK (i == 2) (F27.P2 (F27.L2 call lf ro lf) e h) (.fail))
noncomputable def F27.U6 (call : CT) (lf ro : Nat) (kb2 : (Option Addr) → Nat → Nat → (Option Addr) → Nat → Nat → Int → Heap → Out) (kb6 : (Option Addr) → Nat → Nat → (Option Addr) → Nat → Nat → Int → Int → Int → Heap → Out) (i : Nat) : Option (Env → Heap → Out) := ifJ (i == 7) (some (F27.PJ7 (F27.J7 call lf ro kb2 kb6))) (ifJ (i == 4) (some (F27.PJ4 (F27.J4 call lf ro kb2))) (none))

noncomputable def F27.H2 (call : CT) (lf ro : Nat) (kb2 : (Option Addr) → Nat → Nat → (Option Addr) → Nat → Nat → Int → Heap → Out) (i : Nat) (e : Env) (h : Heap) : Out := ifK (i == 6) (F27.P6 (F27.L6 call lf ro kb2 lf) e h) (ifK (i == 2) (F27.P2 (F27.L2 call lf ro lf) e h) (.fail))
noncomputable def F27.U2 (call : CT) (lf ro : Nat) (kb2 : (Option Addr) → Nat → Nat → (Option Addr) → Nat → Nat → Int → Heap → Out) (i : Nat) : Option (Env → Heap → Out) := ifJ (i == 4) (some (F27.PJ4 (F27.J4 call lf ro kb2))) (none)

noncomputable def F27.C2 (call : CT) (lf ro : Nat) : COut → Out := blockK 0 (seqH Tryd.prog call ro (F27.Ht call lf ro) (F27.Ut call lf ro) (sub (codeOf Tryd.f27) [true, true]) (endK Tryd.prog Tryd.f27))

noncomputable def F27.K2 (call : CT) (lf ro : Nat) : COut → Out := blockK 0 (seqK Tryd.prog call lf ro (sub (codeOf Tryd.f27) [true, true]) (endK Tryd.prog Tryd.f27))

noncomputable def F27.C6 (call : CT) (lf ro : Nat) (kb2 : (Option Addr) → Nat → Nat → (Option Addr) → Nat → Nat → Int → Heap → Out) : COut → Out := blockK 2 (seqH Tryd.prog call ro (F27.H2 call lf ro kb2) (F27.U2 call lf ro kb2) (sub (codeOf Tryd.f27) [true, false, true, false, false, true, false, false, true, true]) (blockK 1 (seqH Tryd.prog call ro (F27.H2 call lf ro kb2) (F27.U2 call lf ro kb2) (sub (codeOf Tryd.f27) [true, false, true, false, false, true, true]) (outK (F27.P2 kb2) (fun i e h => F27.C2 call lf ro (.exit i e h)) (fun e h => F27.C2 call lf ro (.ret e h))))))

noncomputable def F27.K6 (call : CT) (lf ro : Nat) (kb2 : (Option Addr) → Nat → Nat → (Option Addr) → Nat → Nat → Int → Heap → Out) : COut → Out := blockK 2 (seqK Tryd.prog call lf ro (sub (codeOf Tryd.f27) [true, false, true, false, false, true, false, false, true, true]) (blockK 1 (seqK Tryd.prog call lf ro (sub (codeOf Tryd.f27) [true, false, true, false, false, true, true]) (outK (F27.P2 kb2) (fun i e h => F27.C2 call lf ro (.exit i e h)) (fun e h => F27.C2 call lf ro (.ret e h))))))

noncomputable def F27.CJ4 (call : CT) (lf ro : Nat) (kb2 : (Option Addr) → Nat → Nat → (Option Addr) → Nat → Nat → Int → Heap → Out) : COut → Out := outK (F27.P2 kb2) (fun i e h => F27.C2 call lf ro (.exit i e h)) (fun e h => F27.C2 call lf ro (.ret e h))

noncomputable def F27.KJ4 (call : CT) (lf ro : Nat) (kb2 : (Option Addr) → Nat → Nat → (Option Addr) → Nat → Nat → Int → Heap → Out) : COut → Out := outK (F27.P2 kb2) (fun i e h => F27.C2 call lf ro (.exit i e h)) (fun e h => F27.C2 call lf ro (.ret e h))

noncomputable def F27.CJ7 (call : CT) (lf ro : Nat) (kb2 : (Option Addr) → Nat → Nat → (Option Addr) → Nat → Nat → Int → Heap → Out) (kb6 : (Option Addr) → Nat → Nat → (Option Addr) → Nat → Nat → Int → Int → Int → Heap → Out) : COut → Out := outK (F27.P6 kb6) (fun i e h => F27.C6 call lf ro kb2 (.exit i e h)) (fun e h => F27.C6 call lf ro kb2 (.ret e h))

noncomputable def F27.KJ7 (call : CT) (lf ro : Nat) (kb2 : (Option Addr) → Nat → Nat → (Option Addr) → Nat → Nat → Int → Heap → Out) (kb6 : (Option Addr) → Nat → Nat → (Option Addr) → Nat → Nat → Int → Int → Int → Heap → Out) : COut → Out := outK (F27.P6 kb6) (fun i e h => F27.C6 call lf ro kb2 (.exit i e h)) (fun e h => F27.C6 call lf ro kb2 (.ret e h))

theorem F27.RJ7 (call : CT) (lf ro : Nat) (kb2 : (Option Addr) → Nat → Nat → (Option Addr) → Nat → Nat → Int → Heap → Out) (kb6 : (Option Addr) → Nat → Nat → (Option Addr) → Nat → Nat → Int → Int → Int → Heap → Out) (f : Nat → Option Value) (a15 : Option Addr) (l15 : Nat) (c15 : Nat) (a16 : Option Addr) (l16 : Nat) (c16 : Nat) (n17 : Int) (n18 : Int) (n19 : Int) (h20 : Heap) :
    execH Tryd.prog call ro (F27.H6 call lf ro kb2 kb6) (F27.U6 call lf ro kb2 kb6) (sub (codeOf Tryd.f27) [true, false, true, false, false, true, false, false, true, false, true, false, false, true, true]) (EF 42 (updF (updF (updF (updF (updF f 0 (some (.slice a15 l15 c15))) 1 (some (.slice a16 l16 c16))) 5 (some (.int .i64 n17))) 6 (some (.int .u8 n18))) 14 (some (.int .i64 n19)))) h20 (F27.CJ7 call lf ro kb2 kb6) = F27.J7 call lf ro kb2 kb6 a15 l15 c15 a16 l16 c16 n17 n18 n19 h20 := by kernel_rfl

theorem F27.CKJ7 (call : CT) (lf ro : Nat) (kb2 : (Option Addr) → Nat → Nat → (Option Addr) → Nat → Nat → Int → Heap → Out) (kb6 : (Option Addr) → Nat → Nat → (Option Addr) → Nat → Nat → Int → Int → Int → Heap → Out) : KLe 42 (F27.CJ7 call lf ro kb2 kb6) (F27.KJ7 call lf ro kb2 kb6) :=
  (KLe.refl _)

theorem F27.BJ7 (call : CT) (lf ro : Nat) (kb2 : (Option Addr) → Nat → Nat → (Option Addr) → Nat → Nat → Int → Heap → Out) (kb6 : (Option Addr) → Nat → Nat → (Option Addr) → Nat → Nat → Int → Int → Int → Heap → Out) : ∀ e h, Shaped 42 e → LeO (F27.PJ7 (F27.J7 call lf ro kb2 kb6) e h) (execK Tryd.prog call lf ro (sub (codeOf Tryd.f27) [true, false, true, false, false, true, false, false, true, false, true, false, false, true, true]) e h (F27.KJ7 call lf ro kb2 kb6)) := by
    rintro e h ⟨f, rfl⟩
    unfold F27.PJ7
    refine getK_le fun w0 g0 => ?_
    rw [EF_get (by decide)] at g0
    refine sliceK_le fun a253 l253 c253 z301 => ?_
    subst z301
    refine getK_le fun w1 g1 => ?_
    rw [EF_get (by decide)] at g1
    refine sliceK_le fun a254 l254 c254 z302 => ?_
    subst z302
    refine getK_le fun w5 g5 => ?_
    rw [EF_get (by decide)] at g5
    refine intK_le fun n255 z303 => ?_
    subst z303
    refine getK_le fun w6 g6 => ?_
    rw [EF_get (by decide)] at g6
    refine intK_le fun n256 z304 => ?_
    subst z304
    refine getK_le fun w14 g14 => ?_
    rw [EF_get (by decide)] at g14
    refine intK_le fun n257 z305 => ?_
    subst z305
    have hr := F27.RJ7 call lf ro kb2 kb6 f a253 l253 c253 a254 l254 c254 n255 n256 n257 h
    rw [updF_same g0, updF_same g1, updF_same g5, updF_same g6, updF_same g14] at hr
    exact cut_le (H := (F27.H6 call lf ro kb2 kb6)) (J := (F27.U6 call lf ro kb2 kb6)) (F27.CKJ7 call lf ro kb2 kb6) (hd_free rfl) hr

theorem F27.R6 (call : CT) (lf ro : Nat) (kb2 : (Option Addr) → Nat → Nat → (Option Addr) → Nat → Nat → Int → Heap → Out) (n : Nat) (f : Nat → Option Value) (a9 : Option Addr) (l9 : Nat) (c9 : Nat) (a10 : Option Addr) (l10 : Nat) (c10 : Nat) (n11 : Int) (n12 : Int) (n13 : Int) (h14 : Heap) :
    execH Tryd.prog call ro (F27.H6 call lf ro kb2 (F27.L6 call lf ro kb2 n)) (F27.U6 call lf ro kb2 (F27.L6 call lf ro kb2 n)) (sub (codeOf Tryd.f27) [true, false, true, false, false, true, false, false, true, false, true, false, false]) (EF 42 (updF (updF (updF (updF (updF f 0 (some (.slice a9 l9 c9))) 1 (some (.slice a10 l10 c10))) 5 (some (.int .i64 n11))) 6 (some (.int .u8 n12))) 14 (some (.int .i64 n13)))) h14 (outK (F27.P6 (F27.L6 call lf ro kb2 n)) (fun i e h => F27.C6 call lf ro kb2 (.exit i e h)) (fun e h => F27.C6 call lf ro kb2 (.ret e h))) = F27.L6 call lf ro kb2 (n + 1) a9 l9 c9 a10 l10 c10 n11 n12 n13 h14 := by kernel_rfl

theorem F27.CK6 (call : CT) (lf ro : Nat) (kb2 : (Option Addr) → Nat → Nat → (Option Addr) → Nat → Nat → Int → Heap → Out) : KLe 42 (F27.C6 call lf ro kb2) (F27.K6 call lf ro kb2) :=
  (KLe.block (KLe.seq (H := (F27.H2 call lf ro kb2)) (J := (F27.U2 call lf ro kb2)) (KLe.block (KLe.seq (H := (F27.H2 call lf ro kb2)) (J := (F27.U2 call lf ro kb2)) (KLe.refl _) (hd_free rfl))) (hd_free rfl)))

theorem F27.B6 (call : CT) (lf ro : Nat) (kb2 : (Option Addr) → Nat → Nat → (Option Addr) → Nat → Nat → Int → Heap → Out) : ∀ n e h, Shaped 42 e → LeO (F27.P6 (F27.L6 call lf ro kb2 n) e h) (loopK (execK Tryd.prog call lf ro (sub (codeOf Tryd.f27) [true, false, true, false, false, true, false, false, true, false, true, false, false])) n e h (F27.K6 call lf ro kb2)) := by
  refine loop_le (fun e h k k' hs hk => execK_mono _ e h k k' hs hk) (kb := fun n => F27.P6 (F27.L6 call lf ro kb2 n)) (kx := fun i e h => F27.C6 call lf ro kb2 (.exit i e h)) (kr := fun e h => F27.C6 call lf ro kb2 (.ret e h)) ?_ ?_ (fun i e h hs => (F27.CK6 call lf ro kb2).exit i e h hs) (fun e h hs => (F27.CK6 call lf ro kb2).ret e h hs)
  · rintro e h ⟨f, rfl⟩
    unfold F27.P6
    refine getK_le fun w0 g0 => ?_
    rw [EF_get (by decide)] at g0
    refine sliceK_le fun a290 l290 c290 z311 => ?_
    subst z311
    refine getK_le fun w1 g1 => ?_
    rw [EF_get (by decide)] at g1
    refine sliceK_le fun a291 l291 c291 z312 => ?_
    subst z312
    refine getK_le fun w5 g5 => ?_
    rw [EF_get (by decide)] at g5
    refine intK_le fun n292 z313 => ?_
    subst z313
    refine getK_le fun w6 g6 => ?_
    rw [EF_get (by decide)] at g6
    refine intK_le fun n293 z314 => ?_
    subst z314
    refine getK_le fun w14 g14 => ?_
    rw [EF_get (by decide)] at g14
    refine intK_le fun n294 z315 => ?_
    subst z315
    exact LeO.refl _
  · rintro n e h ⟨f, rfl⟩
    unfold F27.P6
    refine getK_le fun w0 g0 => ?_
    rw [EF_get (by decide)] at g0
    refine sliceK_le fun a290 l290 c290 z316 => ?_
    subst z316
    refine getK_le fun w1 g1 => ?_
    rw [EF_get (by decide)] at g1
    refine sliceK_le fun a291 l291 c291 z317 => ?_
    subst z317
    refine getK_le fun w5 g5 => ?_
    rw [EF_get (by decide)] at g5
    refine intK_le fun n292 z318 => ?_
    subst z318
    refine getK_le fun w6 g6 => ?_
    rw [EF_get (by decide)] at g6
    refine intK_le fun n293 z319 => ?_
    subst z319
    refine getK_le fun w14 g14 => ?_
    rw [EF_get (by decide)] at g14
    refine intK_le fun n294 z320 => ?_
    subst z320
    have hr := F27.R6 call lf ro kb2 n f a290 l290 c290 a291 l291 c291 n292 n293 n294 h
    rw [updF_same g0, updF_same g1, updF_same g5, updF_same g6, updF_same g14] at hr
    exact round_le (H := (F27.H6 call lf ro kb2 (F27.L6 call lf ro kb2 n))) (J := (F27.U6 call lf ro kb2 (F27.L6 call lf ro kb2 n))) ⟨(hd_free rfl), ⟨(hd_free rfl), (fun e h hs => F27.BJ7 call lf ro kb2 (F27.L6 call lf ro kb2 n) e h hs)⟩⟩ hr

theorem F27.RJ4 (call : CT) (lf ro : Nat) (kb2 : (Option Addr) → Nat → Nat → (Option Addr) → Nat → Nat → Int → Heap → Out) (f : Nat → Option Value) (a5 : Option Addr) (l5 : Nat) (c5 : Nat) (a6 : Option Addr) (l6 : Nat) (c6 : Nat) (n7 : Int) (h8 : Heap) :
    execH Tryd.prog call ro (F27.H2 call lf ro kb2) (F27.U2 call lf ro kb2) (sub (codeOf Tryd.f27) [true, false, true, false, false, true]) (EF 42 (updF (updF (updF f 0 (some (.slice a5 l5 c5))) 1 (some (.slice a6 l6 c6))) 5 (some (.int .i64 n7)))) h8 (F27.CJ4 call lf ro kb2) = F27.J4 call lf ro kb2 a5 l5 c5 a6 l6 c6 n7 h8 := by kernel_rfl

theorem F27.CKJ4 (call : CT) (lf ro : Nat) (kb2 : (Option Addr) → Nat → Nat → (Option Addr) → Nat → Nat → Int → Heap → Out) : KLe 42 (F27.CJ4 call lf ro kb2) (F27.KJ4 call lf ro kb2) :=
  (KLe.refl _)

theorem F27.BJ4 (call : CT) (lf ro : Nat) (kb2 : (Option Addr) → Nat → Nat → (Option Addr) → Nat → Nat → Int → Heap → Out) : ∀ e h, Shaped 42 e → LeO (F27.PJ4 (F27.J4 call lf ro kb2) e h) (execK Tryd.prog call lf ro (sub (codeOf Tryd.f27) [true, false, true, false, false, true]) e h (F27.KJ4 call lf ro kb2)) := by
    rintro e h ⟨f, rfl⟩
    unfold F27.PJ4
    refine getK_le fun w0 g0 => ?_
    rw [EF_get (by decide)] at g0
    refine sliceK_le fun a295 l295 c295 z321 => ?_
    subst z321
    refine getK_le fun w1 g1 => ?_
    rw [EF_get (by decide)] at g1
    refine sliceK_le fun a296 l296 c296 z322 => ?_
    subst z322
    refine getK_le fun w5 g5 => ?_
    rw [EF_get (by decide)] at g5
    refine intK_le fun n297 z323 => ?_
    subst z323
    have hr := F27.RJ4 call lf ro kb2 f a295 l295 c295 a296 l296 c296 n297 h
    rw [updF_same g0, updF_same g1, updF_same g5] at hr
    exact cut_le (H := (F27.H2 call lf ro kb2)) (J := (F27.U2 call lf ro kb2)) (F27.CKJ4 call lf ro kb2) ⟨⟨(hd_free rfl), ⟨⟨(hd_free rfl), (fun e h hs => F27.B6 call lf ro kb2 lf e h hs)⟩, (hd_free rfl)⟩⟩, (hd_free rfl)⟩ hr

theorem F27.R2 (call : CT) (lf ro : Nat) (n : Nat) (f : Nat → Option Value) (a1 : Option Addr) (l1 : Nat) (c1 : Nat) (a2 : Option Addr) (l2 : Nat) (c2 : Nat) (n3 : Int) (h4 : Heap) :
    execH Tryd.prog call ro (F27.H2 call lf ro (F27.L2 call lf ro n)) (F27.U2 call lf ro (F27.L2 call lf ro n)) (sub (codeOf Tryd.f27) [true, false, true, false, false]) (EF 42 (updF (updF (updF f 0 (some (.slice a1 l1 c1))) 1 (some (.slice a2 l2 c2))) 5 (some (.int .i64 n3)))) h4 (outK (F27.P2 (F27.L2 call lf ro n)) (fun i e h => F27.C2 call lf ro (.exit i e h)) (fun e h => F27.C2 call lf ro (.ret e h))) = F27.L2 call lf ro (n + 1) a1 l1 c1 a2 l2 c2 n3 h4 := by kernel_rfl

theorem F27.CK2 (call : CT) (lf ro : Nat) : KLe 42 (F27.C2 call lf ro) (F27.K2 call lf ro) :=
  (KLe.block (KLe.seq (H := (F27.Ht call lf ro)) (J := (F27.Ut call lf ro)) (KLe.refl _) (hd_free rfl)))

theorem F27.B2 (call : CT) (lf ro : Nat) : ∀ n e h, Shaped 42 e → LeO (F27.P2 (F27.L2 call lf ro n) e h) (loopK (execK Tryd.prog call lf ro (sub (codeOf Tryd.f27) [true, false, true, false, false])) n e h (F27.K2 call lf ro)) := by
  refine loop_le (fun e h k k' hs hk => execK_mono _ e h k k' hs hk) (kb := fun n => F27.P2 (F27.L2 call lf ro n)) (kx := fun i e h => F27.C2 call lf ro (.exit i e h)) (kr := fun e h => F27.C2 call lf ro (.ret e h)) ?_ ?_ (fun i e h hs => (F27.CK2 call lf ro).exit i e h hs) (fun e h hs => (F27.CK2 call lf ro).ret e h hs)
  · rintro e h ⟨f, rfl⟩
    unfold F27.P2
    refine getK_le fun w0 g0 => ?_
    rw [EF_get (by decide)] at g0
    refine sliceK_le fun a298 l298 c298 z327 => ?_
    subst z327
    refine getK_le fun w1 g1 => ?_
    rw [EF_get (by decide)] at g1
    refine sliceK_le fun a299 l299 c299 z328 => ?_
    subst z328
    refine getK_le fun w5 g5 => ?_
    rw [EF_get (by decide)] at g5
    refine intK_le fun n300 z329 => ?_
    subst z329
    exact LeO.refl _
  · rintro n e h ⟨f, rfl⟩
    unfold F27.P2
    refine getK_le fun w0 g0 => ?_
    rw [EF_get (by decide)] at g0
    refine sliceK_le fun a298 l298 c298 z330 => ?_
    subst z330
    refine getK_le fun w1 g1 => ?_
    rw [EF_get (by decide)] at g1
    refine sliceK_le fun a299 l299 c299 z331 => ?_
    subst z331
    refine getK_le fun w5 g5 => ?_
    rw [EF_get (by decide)] at g5
    refine intK_le fun n300 z332 => ?_
    subst z332
    have hr := F27.R2 call lf ro n f a298 l298 c298 a299 l299 c299 n300 h
    rw [updF_same g0, updF_same g1, updF_same g5] at hr
    exact round_le (H := (F27.H2 call lf ro (F27.L2 call lf ro n))) (J := (F27.U2 call lf ro (F27.L2 call lf ro n))) ⟨(hd_free rfl), (fun e h hs => F27.BJ4 call lf ro (F27.L2 call lf ro n) e h hs)⟩ hr

theorem F27.le (call : CT) (lf ro : Nat) (ax0 : Option Addr) (lx0 : Nat) (cx0 : Nat) (ax1 : Option Addr) (lx1 : Nat) (cx1 : Nat) (h : Heap) : LeO (F27.t call lf ro ax0 lx0 cx0 ax1 lx1 cx1 h) (bodyK Tryd.prog call lf ro Tryd.f27 [.slice ax0 lx0 cx0, .slice ax1 lx1 cx1] h) :=
  body_le (c := codeOf Tryd.f27) (H := F27.Ht call lf ro) (J := F27.Ut call lf ro) rfl (Nat.le_of_ble_eq_true rfl) ⟨(hd_free rfl), ⟨⟨(hd_free rfl), (fun e h hs => F27.B2 call lf ro  lf e h hs)⟩, (hd_free rfl)⟩⟩ (by kernel_rfl)

/-! ### barscan/raster.possible: function 39 -/

noncomputable def F39.t (call : CT) (lf ro : Nat) (x0 : Int) (x1 : Int) (h : Heap) : Out :=
  letJ (fun (b1 : Bool) =>
  (Out.ok (.bool b1) h)) fun j2 =>
  ifK (decide (x0 ≥ 1)) (ifK (decide (x0 ≤ 4096)) (ifK (decide (x1 ≥ 1)) (ifK (decide (x1 ≤ 4096)) (j2 (decide (IntKind.i64.wrap (x0 * x1) ≤ 4194304))) (j2 false)) (j2 false)) (j2 false)) (j2 false)

noncomputable def F39.Ht (call : CT) (lf ro : Nat) (i : Nat) (e : Env) (h : Heap) : Out := .fail
noncomputable def F39.Ut (call : CT) (lf ro : Nat) (i : Nat) : Option (Env → Heap → Out) := none

theorem F39.le (call : CT) (lf ro : Nat) (x0 : Int) (x1 : Int) (h : Heap) : LeO (F39.t call lf ro x0 x1 h) (bodyK Tryd.prog call lf ro Tryd.f39 [.int .i64 x0, .int .i64 x1] h) :=
  body_le (c := codeOf Tryd.f39) (H := F39.Ht call lf ro) (J := F39.Ut call lf ro) rfl (Nat.le_of_ble_eq_true rfl) (hd_free rfl) (by kernel_rfl)

/-! ### slices.IndexFunc[[]uint8,uint8]: function 40 -/

noncomputable def F40.J3 (call : CT) (lf ro : Nat) (kb2 : (Option Addr) → Nat → Nat → Int → Int → Heap → Out) (a5 : Option Addr) (l5 : Nat) (c5 : Nat) (n6 : Int) (n7 : Int) (h8 : Heap) : Out :=
  bindO (idxO Tryd.prog 22 (.slice a5 l5 c5) (.int .i64 n7) h8) fun v65 h66 =>
  bindO (loadO Tryd.prog 5 v65 h66) fun v67 h68 =>
  intK .u8 v67 fun n69 =>
  bindO (call ro 23 [.int .u8 n69] h68) fun v70 h71 =>
  boolK v70 fun b72 =>
  ifK b72 (Out.ok (.int .i64 n7) h71) (kb2 a5 l5 c5 n6 (IntKind.i64.wrap (n7 + 1)) h71)

noncomputable def F40.PJ3 (kb : (Option Addr) → Nat → Nat → Int → Int → Heap → Out) (e : Env) (h : Heap) : Out :=
  getK (e.get 0) fun w0 =>
  sliceK w0 fun a73 l73 c73 =>
  getK (e.get 1) fun w1 =>
  funK 23 w1 fun q75 q76 =>
  nilK q75 <|
  nilK q76 <|
  getK (e.get 7) fun w7 =>
  intK .i64 w7 fun n77 =>
  getK (e.get 8) fun w8 =>
  intK .i64 w8 fun n78 =>
  kb a73 l73 c73 n77 n78 h

noncomputable def F40.L2 (call : CT) (lf ro : Nat) : Nat → (Option Addr) → Nat → Nat → Int → Int → Heap → Out
  | 0, _, _, _, _, _, _ => .fail
  | n + 1, a1, l1, c1, n2, n3, h4 =>
  ifK (decide (n3 < n2)) (F40.J3 call lf ro (F40.L2 call lf ro n) a1 l1 c1 n2 n3 h4) (Out.ok (.int .i64 (-1)) h4)

noncomputable def F40.P2 (kb : (Option Addr) → Nat → Nat → Int → Int → Heap → Out) (e : Env) (h : Heap) : Out :=
  getK (e.get 0) fun w0 =>
  sliceK w0 fun a79 l79 c79 =>
  getK (e.get 1) fun w1 =>
  funK 23 w1 fun q81 q82 =>
  nilK q81 <|
  nilK q82 <|
  getK (e.get 7) fun w7 =>
  intK .i64 w7 fun n83 =>
  getK (e.get 8) fun w8 =>
  intK .i64 w8 fun n84 =>
  kb a79 l79 c79 n83 n84 h

noncomputable def F40.t (call : CT) (lf ro : Nat) (ax0 : Option Addr) (lx0 : Nat) (cx0 : Nat) (h : Heap) : Out :=
  F40.L2 call lf ro lf ax0 lx0 cx0 (lx0 : Int) 0 h

noncomputable def F40.Ht (call : CT) (lf ro : Nat) (i : Nat) (e : Env) (h : Heap) : Out := ifK (i == 2) (F40.P2 (F40.L2 call lf ro lf) e h) (.fail)
noncomputable def F40.Ut (call : CT) (lf ro : Nat) (i : Nat) : Option (Env → Heap → Out) := none

noncomputable def F40.H2 (call : CT) (lf ro : Nat) (kb2 : (Option Addr) → Nat → Nat → Int → Int → Heap → Out) (i : Nat) (e : Env) (h : Heap) : Out := ifK (i == 2) (F40.P2 (F40.L2 call lf ro lf) e h) (.fail)
noncomputable def F40.U2 (call : CT) (lf ro : Nat) (kb2 : (Option Addr) → Nat → Nat → Int → Int → Heap → Out) (i : Nat) : Option (Env → Heap → Out) := ifJ (i == 3) (some (F40.PJ3 (F40.J3 call lf ro kb2))) (none)

noncomputable def F40.C2 (call : CT) (lf ro : Nat) : COut → Out := blockK 0 (seqH Tryd.prog call ro (F40.Ht call lf ro) (F40.Ut call lf ro) (sub (codeOf Tryd.f40) [true, true]) (endK Tryd.prog Tryd.f40))

noncomputable def F40.K2 (call : CT) (lf ro : Nat) : COut → Out := blockK 0 (seqK Tryd.prog call lf ro (sub (codeOf Tryd.f40) [true, true]) (endK Tryd.prog Tryd.f40))

noncomputable def F40.CJ3 (call : CT) (lf ro : Nat) (kb2 : (Option Addr) → Nat → Nat → Int → Int → Heap → Out) : COut → Out := outK (F40.P2 kb2) (fun i e h => F40.C2 call lf ro (.exit i e h)) (fun e h => F40.C2 call lf ro (.ret e h))

noncomputable def F40.KJ3 (call : CT) (lf ro : Nat) (kb2 : (Option Addr) → Nat → Nat → Int → Int → Heap → Out) : COut → Out := outK (F40.P2 kb2) (fun i e h => F40.C2 call lf ro (.exit i e h)) (fun e h => F40.C2 call lf ro (.ret e h))

theorem F40.RJ3 (call : CT) (lf ro : Nat) (kb2 : (Option Addr) → Nat → Nat → Int → Int → Heap → Out) (f : Nat → Option Value) (a5 : Option Addr) (l5 : Nat) (c5 : Nat) (n6 : Int) (n7 : Int) (h8 : Heap) :
    execH Tryd.prog call ro (F40.H2 call lf ro kb2) (F40.U2 call lf ro kb2) (sub (codeOf Tryd.f40) [true, false, true, false, false, true, true]) (EF 19 (updF (updF (updF (updF f 0 (some (.slice a5 l5 c5))) 1 (some (.func (.func 23) #[] #[]))) 7 (some (.int .i64 n6))) 8 (some (.int .i64 n7)))) h8 (F40.CJ3 call lf ro kb2) = F40.J3 call lf ro kb2 a5 l5 c5 n6 n7 h8 := by kernel_rfl

theorem F40.CKJ3 (call : CT) (lf ro : Nat) (kb2 : (Option Addr) → Nat → Nat → Int → Int → Heap → Out) : KLe 19 (F40.CJ3 call lf ro kb2) (F40.KJ3 call lf ro kb2) :=
  (KLe.refl _)

theorem F40.BJ3 (call : CT) (lf ro : Nat) (kb2 : (Option Addr) → Nat → Nat → Int → Int → Heap → Out) : ∀ e h, Shaped 19 e → LeO (F40.PJ3 (F40.J3 call lf ro kb2) e h) (execK Tryd.prog call lf ro (sub (codeOf Tryd.f40) [true, false, true, false, false, true, true]) e h (F40.KJ3 call lf ro kb2)) := by
    rintro e h ⟨f, rfl⟩
    unfold F40.PJ3
    refine getK_le fun w0 g0 => ?_
    rw [EF_get (by decide)] at g0
    refine sliceK_le fun a73 l73 c73 z85 => ?_
    subst z85
    refine getK_le fun w1 g1 => ?_
    rw [EF_get (by decide)] at g1
    refine funK_le fun q75 q76 z86 => ?_
    subst z86
    refine nilK_le fun z87 => ?_
    subst z87
    refine nilK_le fun z88 => ?_
    subst z88
    refine getK_le fun w7 g7 => ?_
    rw [EF_get (by decide)] at g7
    refine intK_le fun n77 z89 => ?_
    subst z89
    refine getK_le fun w8 g8 => ?_
    rw [EF_get (by decide)] at g8
    refine intK_le fun n78 z90 => ?_
    subst z90
    have hr := F40.RJ3 call lf ro kb2 f a73 l73 c73 n77 n78 h
    rw [updF_same g0, updF_same g1, updF_same g7, updF_same g8] at hr
    exact cut_le (H := (F40.H2 call lf ro kb2)) (J := (F40.U2 call lf ro kb2)) (F40.CKJ3 call lf ro kb2) (hd_free rfl) hr

theorem F40.R2 (call : CT) (lf ro : Nat) (n : Nat) (f : Nat → Option Value) (a1 : Option Addr) (l1 : Nat) (c1 : Nat) (n2 : Int) (n3 : Int) (h4 : Heap) :
    execH Tryd.prog call ro (F40.H2 call lf ro (F40.L2 call lf ro n)) (F40.U2 call lf ro (F40.L2 call lf ro n)) (sub (codeOf Tryd.f40) [true, false, true, false, false]) (EF 19 (updF (updF (updF (updF f 0 (some (.slice a1 l1 c1))) 1 (some (.func (.func 23) #[] #[]))) 7 (some (.int .i64 n2))) 8 (some (.int .i64 n3)))) h4 (outK (F40.P2 (F40.L2 call lf ro n)) (fun i e h => F40.C2 call lf ro (.exit i e h)) (fun e h => F40.C2 call lf ro (.ret e h))) = F40.L2 call lf ro (n + 1) a1 l1 c1 n2 n3 h4 := by kernel_rfl

theorem F40.CK2 (call : CT) (lf ro : Nat) : KLe 19 (F40.C2 call lf ro) (F40.K2 call lf ro) :=
  (KLe.block (KLe.seq (H := (F40.Ht call lf ro)) (J := (F40.Ut call lf ro)) (KLe.refl _) (hd_free rfl)))

theorem F40.B2 (call : CT) (lf ro : Nat) : ∀ n e h, Shaped 19 e → LeO (F40.P2 (F40.L2 call lf ro n) e h) (loopK (execK Tryd.prog call lf ro (sub (codeOf Tryd.f40) [true, false, true, false, false])) n e h (F40.K2 call lf ro)) := by
  refine loop_le (fun e h k k' hs hk => execK_mono _ e h k k' hs hk) (kb := fun n => F40.P2 (F40.L2 call lf ro n)) (kx := fun i e h => F40.C2 call lf ro (.exit i e h)) (kr := fun e h => F40.C2 call lf ro (.ret e h)) ?_ ?_ (fun i e h hs => (F40.CK2 call lf ro).exit i e h hs) (fun e h hs => (F40.CK2 call lf ro).ret e h hs)
  · rintro e h ⟨f, rfl⟩
    unfold F40.P2
    refine getK_le fun w0 g0 => ?_
    rw [EF_get (by decide)] at g0
    refine sliceK_le fun a79 l79 c79 z97 => ?_
    subst z97
    refine getK_le fun w1 g1 => ?_
    rw [EF_get (by decide)] at g1
    refine funK_le fun q81 q82 z98 => ?_
    subst z98
    refine nilK_le fun z99 => ?_
    subst z99
    refine nilK_le fun z100 => ?_
    subst z100
    refine getK_le fun w7 g7 => ?_
    rw [EF_get (by decide)] at g7
    refine intK_le fun n83 z101 => ?_
    subst z101
    refine getK_le fun w8 g8 => ?_
    rw [EF_get (by decide)] at g8
    refine intK_le fun n84 z102 => ?_
    subst z102
    exact LeO.refl _
  · rintro n e h ⟨f, rfl⟩
    unfold F40.P2
    refine getK_le fun w0 g0 => ?_
    rw [EF_get (by decide)] at g0
    refine sliceK_le fun a79 l79 c79 z103 => ?_
    subst z103
    refine getK_le fun w1 g1 => ?_
    rw [EF_get (by decide)] at g1
    refine funK_le fun q81 q82 z104 => ?_
    subst z104
    refine nilK_le fun z105 => ?_
    subst z105
    refine nilK_le fun z106 => ?_
    subst z106
    refine getK_le fun w7 g7 => ?_
    rw [EF_get (by decide)] at g7
    refine intK_le fun n83 z107 => ?_
    subst z107
    refine getK_le fun w8 g8 => ?_
    rw [EF_get (by decide)] at g8
    refine intK_le fun n84 z108 => ?_
    subst z108
    have hr := F40.R2 call lf ro n f a79 l79 c79 n83 n84 h
    rw [updF_same g0, updF_same g1, updF_same g7, updF_same g8] at hr
    exact round_le (H := (F40.H2 call lf ro (F40.L2 call lf ro n))) (J := (F40.U2 call lf ro (F40.L2 call lf ro n))) ⟨(hd_free rfl), ⟨(hd_free rfl), (fun e h hs => F40.BJ3 call lf ro (F40.L2 call lf ro n) e h hs)⟩⟩ hr

theorem F40.le (call : CT) (lf ro : Nat) (ax0 : Option Addr) (lx0 : Nat) (cx0 : Nat) (h : Heap) : LeO (F40.t call lf ro ax0 lx0 cx0 h) (bodyK Tryd.prog call lf ro Tryd.f40 [.slice ax0 lx0 cx0, .func (.func 23) #[] #[]] h) :=
  body_le (c := codeOf Tryd.f40) (H := F40.Ht call lf ro) (J := F40.Ut call lf ro) rfl (Nat.le_of_ble_eq_true rfl) ⟨(hd_free rfl), ⟨⟨(hd_free rfl), (fun e h hs => F40.B2 call lf ro  lf e h hs)⟩, (hd_free rfl)⟩⟩ (by kernel_rfl)

/-! ### internal/strconv.AppendInt: function 41 -/

noncomputable def F41.t (call : CT) (lf ro : Nat) (ax0 : Option Addr) (lx0 : Nat) (cx0 : Nat) (x1 : Int) (x2 : Int) (h : Heap) : Out :=
  letJ (fun (a9 : Option Addr) (l9 : Nat) (c9 : Nat) (n10 : Int) (n11 : Int) (h12 : Heap) =>
  (bindO (call ro 49 [.slice a9 l9 c9, .int .u64 n11, .int .i64 n10] h12) fun v17 h18 =>
  sliceK v17 fun a19 l19 c19 =>
  Out.ok (.slice a19 l19 c19) h18)) fun j13 =>
  ifK (decide (x1 < 0)) (pushJ h 1 [.int .u8 45] fun h24 =>
  bindO (appO Tryd.prog ro 22 22 (.slice ax0 lx0 cx0) (.slice (some ⟨h.next, 0, none⟩) 1 1) h24) fun v25 h26 =>
  sliceK v25 fun a27 l27 c27 =>
  j13 a27 l27 c27 x2 (IntKind.u64.wrap (0 - (IntKind.u64.wrap x1))) h26) (j13 ax0 lx0 cx0 x2 (IntKind.u64.wrap x1) h)

noncomputable def F41.Ht (call : CT) (lf ro : Nat) (i : Nat) (e : Env) (h : Heap) : Out := .fail
noncomputable def F41.Ut (call : CT) (lf ro : Nat) (i : Nat) : Option (Env → Heap → Out) := none

theorem F41.le (call : CT) (lf ro : Nat) (ax0 : Option Addr) (lx0 : Nat) (cx0 : Nat) (x1 : Int) (x2 : Int) (h : Heap) : LeO (F41.t call lf ro ax0 lx0 cx0 x1 x2 h) (bodyK Tryd.prog call lf ro Tryd.f41 [.slice ax0 lx0 cx0, .int .i64 x1, .int .i64 x2] h) :=
  body_le (c := codeOf Tryd.f41) (H := F41.Ht call lf ro) (J := F41.Ut call lf ro) rfl (Nat.le_of_ble_eq_true rfl) (hd_free rfl) (by kernel_rfl)

/-! ### internal/strconv.AppendUint: function 49 -/

noncomputable def F49.t (call : CT) (lf ro : Nat) (ax0 : Option Addr) (lx0 : Nat) (cx0 : Nat) (x1 : Int) (x2 : Int) (h : Heap) : Out :=
  ifK (x2 == 10) (ifK (decide (x1 < 100)) (bindO (call ro 61 [.int .i64 (IntKind.i64.wrap x1)] h) fun v75 h76 =>
  strK v75 fun s77 =>
  bindO (appO Tryd.prog ro 22 9 (.slice ax0 lx0 cx0) (.string s77) h76) fun v78 h79 =>
  sliceK v78 fun a80 l80 c80 =>
  Out.ok (.slice a80 l80 c80) h79) (pushJ h 1 [.int .u8 0, .int .u8 0, .int .u8 0, .int .u8 0, .int .u8 0, .int .u8 0, .int .u8 0, .int .u8 0, .int .u8 0, .int .u8 0, .int .u8 0, .int .u8 0, .int .u8 0, .int .u8 0, .int .u8 0, .int .u8 0, .int .u8 0, .int .u8 0, .int .u8 0, .int .u8 0, .int .u8 0, .int .u8 0, .int .u8 0, .int .u8 0] fun h82 =>
  bindO (call ro 62 [.int .u64 x1] h82) fun v86 h87 =>
  intK .i64 v86 fun n88 =>
  bindO (sliceO Tryd.prog 86 (.pointer (some ⟨h.next, 0, none⟩)) none (some (.int .i64 n88)) h87) fun v95 h96 =>
  sliceK v95 fun a97 l97 c97 =>
  bindO (call ro 63 [.slice a97 l97 c97, .int .u64 x1] h96) fun v98 h99 =>
  tupK v98 fun q100 =>
  nilK q100 <|
  bindO (sliceO Tryd.prog 86 (.pointer (some ⟨h.next, 0, none⟩)) none (some (.int .i64 n88)) h99) fun v107 h108 =>
  sliceK v107 fun a109 l109 c109 =>
  bindO (appO Tryd.prog ro 22 22 (.slice ax0 lx0 cx0) (.slice a109 l109 c109) h108) fun v110 h111 =>
  sliceK v110 fun a112 l112 c112 =>
  Out.ok (.slice a112 l112 c112) h111)) (bindO (call ro 64 [.slice ax0 lx0 cx0, .int .u64 x1, .int .i64 x2, .bool false, .bool true] h) fun v122 h123 =>
  tupK v122 fun q124 =>
  consK q124 fun x125 q126 =>
  sliceK x125 fun a127 l127 c127 =>
  consK q126 fun x128 q129 =>
  strK x128 fun s130 =>
  nilK q129 <|
  Out.ok (.slice a127 l127 c127) h123)

noncomputable def F49.Ht (call : CT) (lf ro : Nat) (i : Nat) (e : Env) (h : Heap) : Out := .fail
noncomputable def F49.Ut (call : CT) (lf ro : Nat) (i : Nat) : Option (Env → Heap → Out) := none

theorem F49.le (call : CT) (lf ro : Nat) (ax0 : Option Addr) (lx0 : Nat) (cx0 : Nat) (x1 : Int) (x2 : Int) (h : Heap) : LeO (F49.t call lf ro ax0 lx0 cx0 x1 x2 h) (bodyK Tryd.prog call lf ro Tryd.f49 [.slice ax0 lx0 cx0, .int .u64 x1, .int .i64 x2] h) :=
  body_le (c := codeOf Tryd.f49) (H := F49.Ht call lf ro) (J := F49.Ut call lf ro) rfl (Nat.le_of_ble_eq_true rfl) (hd_free rfl) (by kernel_rfl)

/-! ### internal/strconv.small: function 61 -/

noncomputable def F61.t (call : CT) (lf ro : Nat) (x0 : Int) (h : Heap) : Out :=
  ifK (decide (x0 < 10)) (bindO (sliceO Tryd.prog 9 (.string wlit1) (some (.int .i64 x0)) (some (.int .i64 (IntKind.i64.wrap (x0 + 1)))) h) fun v10 h11 =>
  strK v10 fun s12 =>
  Out.ok (.string s12) h11) (bindO (sliceO Tryd.prog 9 (.string wlit2) (some (.int .i64 (IntKind.i64.wrap (x0 * 2)))) (some (.int .i64 (IntKind.i64.wrap ((IntKind.i64.wrap (x0 * 2)) + 2)))) h) fun v16 h17 =>
  strK v16 fun s18 =>
  Out.ok (.string s18) h17)

noncomputable def F61.Ht (call : CT) (lf ro : Nat) (i : Nat) (e : Env) (h : Heap) : Out := .fail
noncomputable def F61.Ut (call : CT) (lf ro : Nat) (i : Nat) : Option (Env → Heap → Out) := none

theorem F61.le (call : CT) (lf ro : Nat) (x0 : Int) (h : Heap) : LeO (F61.t call lf ro x0 h) (bodyK Tryd.prog call lf ro Tryd.f61 [.int .i64 x0] h) :=
  body_le (c := codeOf Tryd.f61) (H := F61.Ht call lf ro) (J := F61.Ut call lf ro) rfl (Nat.le_of_ble_eq_true rfl) (hd_free rfl) (by kernel_rfl)

/-! ### internal/strconv.numDigits: function 62 -/

noncomputable def F62.t (call : CT) (lf ro : Nat) (x0 : Int) (h : Heap) : Out :=
  bindO (call ro 71 [.int .u64 x0] h) fun v7 h8 =>
  intK .i64 v7 fun n9 =>
  bindO (call ro 70 [.int .i64 n9] h8) fun v10 h11 =>
  intK .i64 v10 fun n12 =>
  bindO (idxO Tryd.prog 95 (.pointer (some ⟨0, 0, none⟩)) (.int .i64 n12) h11) fun v21 h22 =>
  bindO (loadO Tryd.prog 74 v21 h22) fun v23 h24 =>
  intK .u64 v23 fun n25 =>
  bindO (call ro 72 [.bool (decide (x0 ≥ n25))] h24) fun v26 h27 =>
  intK .i64 v26 fun n28 =>
  Out.ok (.int .i64 (IntKind.i64.wrap (n12 + n28))) h27

noncomputable def F62.Ht (call : CT) (lf ro : Nat) (i : Nat) (e : Env) (h : Heap) : Out := .fail
noncomputable def F62.Ut (call : CT) (lf ro : Nat) (i : Nat) : Option (Env → Heap → Out) := none

theorem F62.le (call : CT) (lf ro : Nat) (x0 : Int) (h : Heap) : LeO (F62.t call lf ro x0 h) (bodyK Tryd.prog call lf ro Tryd.f62 [.int .u64 x0] h) :=
  body_le (c := codeOf Tryd.f62) (H := F62.Ht call lf ro) (J := F62.Ut call lf ro) rfl (Nat.le_of_ble_eq_true rfl) (hd_free rfl) (by kernel_rfl)

/-! ### internal/strconv.formatBase10: function 63 -/

noncomputable def F63.J25 (call : CT) (lf ro : Nat) (a97 : Option Addr) (l97 : Nat) (c97 : Nat) (n98 : Int) (n99 : Int) (h100 : Heap) : Out :=
  ifK (decide (n98 > 0)) (bindO (idxO Tryd.prog 22 (.slice a97 l97 c97) (.int .i64 0) h100) fun v101 h102 =>
  bindO (storeO Tryd.prog ro 5 v101 (.int .u8 (IntKind.u8.wrap (IntKind.u32.wrap (48 + n99)))) h102) fun v103 h104 =>
  Out.ok (.tuple #[]) h104) (Out.ok (.tuple #[]) h100)

noncomputable def F63.PJ25 (kb : (Option Addr) → Nat → Nat → Int → Int → Heap → Out) (e : Env) (h : Heap) : Out :=
  getK (e.get 0) fun w0 =>
  sliceK w0 fun a105 l105 c105 =>
  getK (e.get 4) fun w4 =>
  intK .i64 w4 fun n106 =>
  getK (e.get 12) fun w12 =>
  intK .u32 w12 fun n107 =>
  kb a105 l105 c105 n106 n107 h

noncomputable def F63.J20 (call : CT) (lf ro : Nat) (a65 : Option Addr) (l65 : Nat) (c65 : Nat) (n66 : Int) (n67 : Int) (h68 : Heap) : Out :=
  ifK (decide (n66 ≥ 2)) (bindN (indexO Tryd.prog 9 (.string wlit2) (.int .u32 (IntKind.u32.wrap ((IntKind.u32.wrap ((Int.tmod n67 100) * 2)) + 1))) h68) fun v83 h84 =>
  intK .u8 v83 fun n85 =>
  bindN (indexO Tryd.prog 9 (.string wlit2) (.int .u32 (IntKind.u32.wrap ((Int.tmod n67 100) * 2))) h84) fun v86 h87 =>
  intK .u8 v86 fun n88 =>
  bindN (idxO Tryd.prog 22 (.slice a65 l65 c65) (.int .i64 (IntKind.i64.wrap (n66 - 1))) h87) fun v89 h90 =>
  bindN (storeO Tryd.prog ro 5 v89 (.int .u8 n85) h90) fun v91 h92 =>
  bindO (idxO Tryd.prog 22 (.slice a65 l65 c65) (.int .i64 (IntKind.i64.wrap (n66 - 2))) h92) fun v93 h94 =>
  bindO (storeO Tryd.prog ro 5 v93 (.int .u8 n88) h94) fun v95 h96 =>
  F63.J25 call lf ro a65 l65 c65 (IntKind.i64.wrap (n66 - 2)) (IntKind.u32.wrap (Int.tdiv n67 100)) h96) (F63.J25 call lf ro a65 l65 c65 n66 n67 h68)

noncomputable def F63.PJ20 (kb : (Option Addr) → Nat → Nat → Int → Int → Heap → Out) (e : Env) (h : Heap) : Out :=
  getK (e.get 0) fun w0 =>
  sliceK w0 fun a108 l108 c108 =>
  getK (e.get 4) fun w4 =>
  intK .i64 w4 fun n109 =>
  getK (e.get 12) fun w12 =>
  intK .u32 w12 fun n110 =>
  kb a108 l108 c108 n109 n110 h

noncomputable def F63.J12 (call : CT) (lf ro : Nat) (a5 : Option Addr) (l5 : Nat) (c5 : Nat) (n6 : Int) (n7 : Int) (h8 : Heap) : Out :=
  ifK (decide (n7 ≥ 4)) (bindN (indexO Tryd.prog 9 (.string wlit2) (.int .u32 (IntKind.u32.wrap ((IntKind.u32.wrap ((Int.tmod (Int.tmod (IntKind.u32.wrap n6) 10000) 100) * 2)) + 1))) h8) fun v23 h24 =>
  intK .u8 v23 fun n25 =>
  bindN (indexO Tryd.prog 9 (.string wlit2) (.int .u32 (IntKind.u32.wrap ((Int.tmod (Int.tmod (IntKind.u32.wrap n6) 10000) 100) * 2))) h24) fun v26 h27 =>
  intK .u8 v26 fun n28 =>
  bindN (idxO Tryd.prog 22 (.slice a5 l5 c5) (.int .i64 (IntKind.i64.wrap (n7 - 1))) h27) fun v29 h30 =>
  bindN (storeO Tryd.prog ro 5 v29 (.int .u8 n25) h30) fun v31 h32 =>
  bindO (idxO Tryd.prog 22 (.slice a5 l5 c5) (.int .i64 (IntKind.i64.wrap (n7 - 2))) h32) fun v33 h34 =>
  bindO (storeO Tryd.prog ro 5 v33 (.int .u8 n28) h34) fun v35 h36 =>
  bindN (indexO Tryd.prog 9 (.string wlit2) (.int .u32 (IntKind.u32.wrap ((IntKind.u32.wrap ((IntKind.u32.wrap (Int.tdiv (Int.tmod (IntKind.u32.wrap n6) 10000) 100)) * 2)) + 1))) h36) fun v51 h52 =>
  intK .u8 v51 fun n53 =>
  bindN (indexO Tryd.prog 9 (.string wlit2) (.int .u32 (IntKind.u32.wrap ((IntKind.u32.wrap (Int.tdiv (Int.tmod (IntKind.u32.wrap n6) 10000) 100)) * 2))) h52) fun v54 h55 =>
  intK .u8 v54 fun n56 =>
  bindN (idxO Tryd.prog 22 (.slice a5 l5 c5) (.int .i64 (IntKind.i64.wrap (n7 - 3))) h55) fun v57 h58 =>
  bindN (storeO Tryd.prog ro 5 v57 (.int .u8 n53) h58) fun v59 h60 =>
  bindO (idxO Tryd.prog 22 (.slice a5 l5 c5) (.int .i64 (IntKind.i64.wrap (n7 - 4))) h60) fun v61 h62 =>
  bindO (storeO Tryd.prog ro 5 v61 (.int .u8 n56) h62) fun v63 h64 =>
  F63.J20 call lf ro a5 l5 c5 (IntKind.i64.wrap (n7 - 4)) (IntKind.u32.wrap (Int.tdiv (IntKind.u32.wrap n6) 10000)) h64) (F63.J20 call lf ro a5 l5 c5 n7 (IntKind.u32.wrap n6) h8)

noncomputable def F63.PJ12 (kb : (Option Addr) → Nat → Nat → Int → Int → Heap → Out) (e : Env) (h : Heap) : Out :=
  getK (e.get 0) fun w0 =>
  sliceK w0 fun a111 l111 c111 =>
  getK (e.get 1) fun w1 =>
  intK .u64 w1 fun n112 =>
  getK (e.get 4) fun w4 =>
  intK .i64 w4 fun n113 =>
  kb a111 l111 c111 n112 n113 h

noncomputable def F63.L1 (call : CT) (lf ro : Nat) : Nat → (Option Addr) → Nat → Nat → Int → Int → Heap → Out
  | 0, _, _, _, _, _, _ => .fail
  | n + 1, a1, l1, c1, n2, n3, h4 =>
  ifK (decide (n3 ≥ 8)) (bindN (indexO Tryd.prog 9 (.string wlit2) (.int .u32 (IntKind.u32.wrap ((IntKind.u32.wrap ((Int.tmod (Int.tmod (IntKind.u32.wrap (Int.tmod n2 100000000)) 10000) 100) * 2)) + 1))) h4) fun v128 h129 =>
  intK .u8 v128 fun n130 =>
  bindN (indexO Tryd.prog 9 (.string wlit2) (.int .u32 (IntKind.u32.wrap ((Int.tmod (Int.tmod (IntKind.u32.wrap (Int.tmod n2 100000000)) 10000) 100) * 2))) h129) fun v131 h132 =>
  intK .u8 v131 fun n133 =>
  bindN (idxO Tryd.prog 22 (.slice a1 l1 c1) (.int .i64 (IntKind.i64.wrap (n3 - 1))) h132) fun v134 h135 =>
  bindN (storeO Tryd.prog ro 5 v134 (.int .u8 n130) h135) fun v136 h137 =>
  bindO (idxO Tryd.prog 22 (.slice a1 l1 c1) (.int .i64 (IntKind.i64.wrap (n3 - 2))) h137) fun v138 h139 =>
  bindO (storeO Tryd.prog ro 5 v138 (.int .u8 n133) h139) fun v140 h141 =>
  bindN (indexO Tryd.prog 9 (.string wlit2) (.int .u32 (IntKind.u32.wrap ((IntKind.u32.wrap ((IntKind.u32.wrap (Int.tdiv (Int.tmod (IntKind.u32.wrap (Int.tmod n2 100000000)) 10000) 100)) * 2)) + 1))) h141) fun v156 h157 =>
  intK .u8 v156 fun n158 =>
  bindN (indexO Tryd.prog 9 (.string wlit2) (.int .u32 (IntKind.u32.wrap ((IntKind.u32.wrap (Int.tdiv (Int.tmod (IntKind.u32.wrap (Int.tmod n2 100000000)) 10000) 100)) * 2))) h157) fun v159 h160 =>
  intK .u8 v159 fun n161 =>
  bindN (idxO Tryd.prog 22 (.slice a1 l1 c1) (.int .i64 (IntKind.i64.wrap (n3 - 3))) h160) fun v162 h163 =>
  bindN (storeO Tryd.prog ro 5 v162 (.int .u8 n158) h163) fun v164 h165 =>
  bindO (idxO Tryd.prog 22 (.slice a1 l1 c1) (.int .i64 (IntKind.i64.wrap (n3 - 4))) h165) fun v166 h167 =>
  bindO (storeO Tryd.prog ro 5 v166 (.int .u8 n161) h167) fun v168 h169 =>
  bindN (indexO Tryd.prog 9 (.string wlit2) (.int .u32 (IntKind.u32.wrap ((IntKind.u32.wrap ((Int.tmod (IntKind.u32.wrap (Int.tdiv (IntKind.u32.wrap (Int.tmod n2 100000000)) 10000)) 100) * 2)) + 1))) h169) fun v184 h185 =>
  intK .u8 v184 fun n186 =>
  bindN (indexO Tryd.prog 9 (.string wlit2) (.int .u32 (IntKind.u32.wrap ((Int.tmod (IntKind.u32.wrap (Int.tdiv (IntKind.u32.wrap (Int.tmod n2 100000000)) 10000)) 100) * 2))) h185) fun v187 h188 =>
  intK .u8 v187 fun n189 =>
  bindN (idxO Tryd.prog 22 (.slice a1 l1 c1) (.int .i64 (IntKind.i64.wrap (n3 - 5))) h188) fun v190 h191 =>
  bindN (storeO Tryd.prog ro 5 v190 (.int .u8 n186) h191) fun v192 h193 =>
  bindO (idxO Tryd.prog 22 (.slice a1 l1 c1) (.int .i64 (IntKind.i64.wrap (n3 - 6))) h193) fun v194 h195 =>
  bindO (storeO Tryd.prog ro 5 v194 (.int .u8 n189) h195) fun v196 h197 =>
  bindN (indexO Tryd.prog 9 (.string wlit2) (.int .u32 (IntKind.u32.wrap ((IntKind.u32.wrap ((IntKind.u32.wrap (Int.tdiv (IntKind.u32.wrap (Int.tdiv (IntKind.u32.wrap (Int.tmod n2 100000000)) 10000)) 100)) * 2)) + 1))) h197) fun v212 h213 =>
  intK .u8 v212 fun n214 =>
  bindN (indexO Tryd.prog 9 (.string wlit2) (.int .u32 (IntKind.u32.wrap ((IntKind.u32.wrap (Int.tdiv (IntKind.u32.wrap (Int.tdiv (IntKind.u32.wrap (Int.tmod n2 100000000)) 10000)) 100)) * 2))) h213) fun v215 h216 =>
  intK .u8 v215 fun n217 =>
  bindN (idxO Tryd.prog 22 (.slice a1 l1 c1) (.int .i64 (IntKind.i64.wrap (n3 - 7))) h216) fun v218 h219 =>
  bindN (storeO Tryd.prog ro 5 v218 (.int .u8 n214) h219) fun v220 h221 =>
  bindO (idxO Tryd.prog 22 (.slice a1 l1 c1) (.int .i64 (IntKind.i64.wrap (n3 - 8))) h221) fun v222 h223 =>
  bindO (storeO Tryd.prog ro 5 v222 (.int .u8 n217) h223) fun v224 h225 =>
  F63.L1 call lf ro n a1 l1 c1 (IntKind.u64.wrap (Int.tdiv n2 100000000)) (IntKind.i64.wrap (n3 - 8)) h225) (F63.J12 call lf ro a1 l1 c1 n2 n3 h4)

noncomputable def F63.P1 (kb : (Option Addr) → Nat → Nat → Int → Int → Heap → Out) (e : Env) (h : Heap) : Out :=
  getK (e.get 0) fun w0 =>
  sliceK w0 fun a226 l226 c226 =>
  getK (e.get 1) fun w1 =>
  intK .u64 w1 fun n227 =>
  getK (e.get 4) fun w4 =>
  intK .i64 w4 fun n228 =>
  kb a226 l226 c226 n227 n228 h

noncomputable def F63.t (call : CT) (lf ro : Nat) (ax0 : Option Addr) (lx0 : Nat) (cx0 : Nat) (x1 : Int) (h : Heap) : Out :=
  F63.L1 call lf ro lf ax0 lx0 cx0 x1 (lx0 : Int) h

noncomputable def F63.Ht (call : CT) (lf ro : Nat) (i : Nat) (e : Env) (h : Heap) : Out := ifK (i == 1) (F63.P1 (F63.L1 call lf ro lf) e h) (.fail)
noncomputable def F63.Ut (call : CT) (lf ro : Nat) (i : Nat) : Option (Env → Heap → Out) := ifJ (i == 25) (some (F63.PJ25 (F63.J25 call lf ro))) (ifJ (i == 20) (some (F63.PJ20 (F63.J20 call lf ro))) (ifJ (i == 12) (some (F63.PJ12 (F63.J12 call lf ro))) (none)))

noncomputable def F63.H1 (call : CT) (lf ro : Nat) (kb1 : (Option Addr) → Nat → Nat → Int → Int → Heap → Out) (i : Nat) (e : Env) (h : Heap) : Out := ifK (i == 1) (F63.P1 (F63.L1 call lf ro lf) e h) (.fail)
noncomputable def F63.U1 (call : CT) (lf ro : Nat) (kb1 : (Option Addr) → Nat → Nat → Int → Int → Heap → Out) (i : Nat) : Option (Env → Heap → Out) := ifJ (i == 25) (some (F63.PJ25 (F63.J25 call lf ro))) (ifJ (i == 20) (some (F63.PJ20 (F63.J20 call lf ro))) (ifJ (i == 12) (some (F63.PJ12 (F63.J12 call lf ro))) (none)))

noncomputable def F63.C1 (call : CT) (lf ro : Nat) : COut → Out := blockK 0 (seqH Tryd.prog call ro (F63.Ht call lf ro) (F63.Ut call lf ro) (sub (codeOf Tryd.f63) [true, true]) (endK Tryd.prog Tryd.f63))

noncomputable def F63.K1 (call : CT) (lf ro : Nat) : COut → Out := blockK 0 (seqK Tryd.prog call lf ro (sub (codeOf Tryd.f63) [true, true]) (endK Tryd.prog Tryd.f63))

noncomputable def F63.CJ25 (call : CT) (lf ro : Nat) : COut → Out := endK Tryd.prog Tryd.f63

noncomputable def F63.KJ25 (call : CT) (lf ro : Nat) : COut → Out := endK Tryd.prog Tryd.f63

noncomputable def F63.CJ20 (call : CT) (lf ro : Nat) : COut → Out := endK Tryd.prog Tryd.f63

noncomputable def F63.KJ20 (call : CT) (lf ro : Nat) : COut → Out := endK Tryd.prog Tryd.f63

noncomputable def F63.CJ12 (call : CT) (lf ro : Nat) : COut → Out := endK Tryd.prog Tryd.f63

noncomputable def F63.KJ12 (call : CT) (lf ro : Nat) : COut → Out := endK Tryd.prog Tryd.f63

theorem F63.RJ25 (call : CT) (lf ro : Nat) (f : Nat → Option Value) (a97 : Option Addr) (l97 : Nat) (c97 : Nat) (n98 : Int) (n99 : Int) (h100 : Heap) :
    execH Tryd.prog call ro (F63.Ht call lf ro) (F63.Ut call lf ro) (sub (codeOf Tryd.f63) [true, true, true, true, true]) (EF 167 (updF (updF (updF f 0 (some (.slice a97 l97 c97))) 4 (some (.int .i64 n98))) 12 (some (.int .u32 n99)))) h100 (F63.CJ25 call lf ro) = F63.J25 call lf ro a97 l97 c97 n98 n99 h100 := by kernel_rfl

theorem F63.CKJ25 (call : CT) (lf ro : Nat) : KLe 167 (F63.CJ25 call lf ro) (F63.KJ25 call lf ro) :=
  (KLe.refl _)

theorem F63.BJ25 (call : CT) (lf ro : Nat) : ∀ e h, Shaped 167 e → LeO (F63.PJ25 (F63.J25 call lf ro) e h) (execK Tryd.prog call lf ro (sub (codeOf Tryd.f63) [true, true, true, true, true]) e h (F63.KJ25 call lf ro)) := by
    rintro e h ⟨f, rfl⟩
    unfold F63.PJ25
    refine getK_le fun w0 g0 => ?_
    rw [EF_get (by decide)] at g0
    refine sliceK_le fun a105 l105 c105 z229 => ?_
    subst z229
    refine getK_le fun w4 g4 => ?_
    rw [EF_get (by decide)] at g4
    refine intK_le fun n106 z230 => ?_
    subst z230
    refine getK_le fun w12 g12 => ?_
    rw [EF_get (by decide)] at g12
    refine intK_le fun n107 z231 => ?_
    subst z231
    have hr := F63.RJ25 call lf ro f a105 l105 c105 n106 n107 h
    rw [updF_same g0, updF_same g4, updF_same g12] at hr
    exact cut_le (H := (F63.Ht call lf ro)) (J := (F63.Ut call lf ro)) (F63.CKJ25 call lf ro) (hd_free rfl) hr

theorem F63.RJ20 (call : CT) (lf ro : Nat) (f : Nat → Option Value) (a65 : Option Addr) (l65 : Nat) (c65 : Nat) (n66 : Int) (n67 : Int) (h68 : Heap) :
    execH Tryd.prog call ro (F63.Ht call lf ro) (F63.Ut call lf ro) (sub (codeOf Tryd.f63) [true, true, true, true]) (EF 167 (updF (updF (updF f 0 (some (.slice a65 l65 c65))) 4 (some (.int .i64 n66))) 12 (some (.int .u32 n67)))) h68 (F63.CJ20 call lf ro) = F63.J20 call lf ro a65 l65 c65 n66 n67 h68 := by kernel_rfl

theorem F63.CKJ20 (call : CT) (lf ro : Nat) : KLe 167 (F63.CJ20 call lf ro) (F63.KJ20 call lf ro) :=
  (KLe.refl _)

theorem F63.BJ20 (call : CT) (lf ro : Nat) : ∀ e h, Shaped 167 e → LeO (F63.PJ20 (F63.J20 call lf ro) e h) (execK Tryd.prog call lf ro (sub (codeOf Tryd.f63) [true, true, true, true]) e h (F63.KJ20 call lf ro)) := by
    rintro e h ⟨f, rfl⟩
    unfold F63.PJ20
    refine getK_le fun w0 g0 => ?_
    rw [EF_get (by decide)] at g0
    refine sliceK_le fun a108 l108 c108 z235 => ?_
    subst z235
    refine getK_le fun w4 g4 => ?_
    rw [EF_get (by decide)] at g4
    refine intK_le fun n109 z236 => ?_
    subst z236
    refine getK_le fun w12 g12 => ?_
    rw [EF_get (by decide)] at g12
    refine intK_le fun n110 z237 => ?_
    subst z237
    have hr := F63.RJ20 call lf ro f a108 l108 c108 n109 n110 h
    rw [updF_same g0, updF_same g4, updF_same g12] at hr
    exact cut_le (H := (F63.Ht call lf ro)) (J := (F63.Ut call lf ro)) (F63.CKJ20 call lf ro) ⟨(hd_free rfl), (fun e h hs => F63.BJ25 call lf ro  e h hs)⟩ hr

theorem F63.RJ12 (call : CT) (lf ro : Nat) (f : Nat → Option Value) (a5 : Option Addr) (l5 : Nat) (c5 : Nat) (n6 : Int) (n7 : Int) (h8 : Heap) :
    execH Tryd.prog call ro (F63.Ht call lf ro) (F63.Ut call lf ro) (sub (codeOf Tryd.f63) [true, true]) (EF 167 (updF (updF (updF f 0 (some (.slice a5 l5 c5))) 1 (some (.int .u64 n6))) 4 (some (.int .i64 n7)))) h8 (F63.CJ12 call lf ro) = F63.J12 call lf ro a5 l5 c5 n6 n7 h8 := by kernel_rfl

theorem F63.CKJ12 (call : CT) (lf ro : Nat) : KLe 167 (F63.CJ12 call lf ro) (F63.KJ12 call lf ro) :=
  (KLe.refl _)

theorem F63.BJ12 (call : CT) (lf ro : Nat) : ∀ e h, Shaped 167 e → LeO (F63.PJ12 (F63.J12 call lf ro) e h) (execK Tryd.prog call lf ro (sub (codeOf Tryd.f63) [true, true]) e h (F63.KJ12 call lf ro)) := by
    rintro e h ⟨f, rfl⟩
    unfold F63.PJ12
    refine getK_le fun w0 g0 => ?_
    rw [EF_get (by decide)] at g0
    refine sliceK_le fun a111 l111 c111 z241 => ?_
    subst z241
    refine getK_le fun w1 g1 => ?_
    rw [EF_get (by decide)] at g1
    refine intK_le fun n112 z242 => ?_
    subst z242
    refine getK_le fun w4 g4 => ?_
    rw [EF_get (by decide)] at g4
    refine intK_le fun n113 z243 => ?_
    subst z243
    have hr := F63.RJ12 call lf ro f a111 l111 c111 n112 n113 h
    rw [updF_same g0, updF_same g1, updF_same g4] at hr
    exact cut_le (H := (F63.Ht call lf ro)) (J := (F63.Ut call lf ro)) (F63.CKJ12 call lf ro) ⟨(hd_free rfl), ⟨(hd_free rfl), (fun e h hs => F63.BJ20 call lf ro  e h hs)⟩⟩ hr

theorem F63.R1 (call : CT) (lf ro : Nat) (n : Nat) (f : Nat → Option Value) (a1 : Option Addr) (l1 : Nat) (c1 : Nat) (n2 : Int) (n3 : Int) (h4 : Heap) :
    execH Tryd.prog call ro (F63.H1 call lf ro (F63.L1 call lf ro n)) (F63.U1 call lf ro (F63.L1 call lf ro n)) (sub (codeOf Tryd.f63) [true, false, false, false]) (EF 167 (updF (updF (updF f 0 (some (.slice a1 l1 c1))) 1 (some (.int .u64 n2))) 4 (some (.int .i64 n3)))) h4 (outK (F63.P1 (F63.L1 call lf ro n)) (fun i e h => F63.C1 call lf ro (.exit i e h)) (fun e h => F63.C1 call lf ro (.ret e h))) = F63.L1 call lf ro (n + 1) a1 l1 c1 n2 n3 h4 := by kernel_rfl

theorem F63.CK1 (call : CT) (lf ro : Nat) : KLe 167 (F63.C1 call lf ro) (F63.K1 call lf ro) :=
  (KLe.block (KLe.seq (H := (F63.Ht call lf ro)) (J := (F63.Ut call lf ro)) (KLe.refl _) (fun e h hs => F63.BJ12 call lf ro  e h hs)))

theorem F63.B1 (call : CT) (lf ro : Nat) : ∀ n e h, Shaped 167 e → LeO (F63.P1 (F63.L1 call lf ro n) e h) (loopK (execK Tryd.prog call lf ro (sub (codeOf Tryd.f63) [true, false, false, false])) n e h (F63.K1 call lf ro)) := by
  refine loop_le (fun e h k k' hs hk => execK_mono _ e h k k' hs hk) (kb := fun n => F63.P1 (F63.L1 call lf ro n)) (kx := fun i e h => F63.C1 call lf ro (.exit i e h)) (kr := fun e h => F63.C1 call lf ro (.ret e h)) ?_ ?_ (fun i e h hs => (F63.CK1 call lf ro).exit i e h hs) (fun e h hs => (F63.CK1 call lf ro).ret e h hs)
  · rintro e h ⟨f, rfl⟩
    unfold F63.P1
    refine getK_le fun w0 g0 => ?_
    rw [EF_get (by decide)] at g0
    refine sliceK_le fun a226 l226 c226 z247 => ?_
    subst z247
    refine getK_le fun w1 g1 => ?_
    rw [EF_get (by decide)] at g1
    refine intK_le fun n227 z248 => ?_
    subst z248
    refine getK_le fun w4 g4 => ?_
    rw [EF_get (by decide)] at g4
    refine intK_le fun n228 z249 => ?_
    subst z249
    exact LeO.refl _
  · rintro n e h ⟨f, rfl⟩
    unfold F63.P1
    refine getK_le fun w0 g0 => ?_
    rw [EF_get (by decide)] at g0
    refine sliceK_le fun a226 l226 c226 z250 => ?_
    subst z250
    refine getK_le fun w1 g1 => ?_
    rw [EF_get (by decide)] at g1
    refine intK_le fun n227 z251 => ?_
    subst z251
    refine getK_le fun w4 g4 => ?_
    rw [EF_get (by decide)] at g4
    refine intK_le fun n228 z252 => ?_
    subst z252
    have hr := F63.R1 call lf ro n f a226 l226 c226 n227 n228 h
    rw [updF_same g0, updF_same g1, updF_same g4] at hr
    exact round_le (H := (F63.H1 call lf ro (F63.L1 call lf ro n))) (J := (F63.U1 call lf ro (F63.L1 call lf ro n))) (hd_free rfl) hr

theorem F63.le (call : CT) (lf ro : Nat) (ax0 : Option Addr) (lx0 : Nat) (cx0 : Nat) (x1 : Int) (h : Heap) : LeO (F63.t call lf ro ax0 lx0 cx0 x1 h) (bodyK Tryd.prog call lf ro Tryd.f63 [.slice ax0 lx0 cx0, .int .u64 x1] h) :=
  body_le (c := codeOf Tryd.f63) (H := F63.Ht call lf ro) (J := F63.Ut call lf ro) rfl (Nat.le_of_ble_eq_true rfl) ⟨(hd_free rfl), ⟨(fun e h hs => F63.B1 call lf ro  lf e h hs), (fun e h hs => F63.BJ12 call lf ro  e h hs)⟩⟩ (by kernel_rfl)

/-! ### internal/strconv.log10Pow2: function 70 -/

noncomputable def F70.t (call : CT) (lf ro : Nat) (x0 : Int) (h : Heap) : Out :=
  Out.ok (.int .i64 (Int.fdiv (IntKind.i64.wrap (x0 * 78913)) 262144)) h

noncomputable def F70.Ht (call : CT) (lf ro : Nat) (i : Nat) (e : Env) (h : Heap) : Out := .fail
noncomputable def F70.Ut (call : CT) (lf ro : Nat) (i : Nat) : Option (Env → Heap → Out) := none

theorem F70.le (call : CT) (lf ro : Nat) (x0 : Int) (h : Heap) : LeO (F70.t call lf ro x0 h) (bodyK Tryd.prog call lf ro Tryd.f70 [.int .i64 x0] h) :=
  body_le (c := codeOf Tryd.f70) (H := F70.Ht call lf ro) (J := F70.Ut call lf ro) rfl (Nat.le_of_ble_eq_true rfl) (hd_free rfl) (by kernel_rfl)

/-! ### math/bits.Len64: function 71 -/

noncomputable def F71.J7 (call : CT) (lf ro : Nat) (n4 : Int) (n5 : Int) (h6 : Heap) : Out :=
  letJ (fun (n7 : Int) (n8 : Int) =>
  (bindO (indexO Tryd.prog 9 (.string wlit3) (.int .u8 (IntKind.u8.wrap n7)) h6) fun v13 h14 =>
  intK .u8 v13 fun n15 =>
  Out.ok (.int .i64 (IntKind.i64.wrap (n8 + (IntKind.i64.wrap n15)))) h14)) fun j9 =>
  ifK (decide (n4 ≥ 256)) (j9 (Int.fdiv n4 256) (IntKind.i64.wrap (n5 + 8))) (j9 n4 n5)

noncomputable def F71.PJ7 (kb : Int → Int → Heap → Out) (e : Env) (h : Heap) : Out :=
  getK (e.get 0) fun w0 =>
  intK .u64 w0 fun n16 =>
  getK (e.get 2) fun w2 =>
  intK .i64 w2 fun n17 =>
  kb n16 n17 h

noncomputable def F71.J4 (call : CT) (lf ro : Nat) (n1 : Int) (n2 : Int) (h3 : Heap) : Out :=
  ifK (decide (n1 ≥ 65536)) (F71.J7 call lf ro (Int.fdiv n1 65536) (IntKind.i64.wrap (n2 + 16)) h3) (F71.J7 call lf ro n1 n2 h3)

noncomputable def F71.PJ4 (kb : Int → Int → Heap → Out) (e : Env) (h : Heap) : Out :=
  getK (e.get 0) fun w0 =>
  intK .u64 w0 fun n18 =>
  getK (e.get 2) fun w2 =>
  intK .i64 w2 fun n19 =>
  kb n18 n19 h

noncomputable def F71.t (call : CT) (lf ro : Nat) (x0 : Int) (h : Heap) : Out :=
  ifK (decide (x0 ≥ 4294967296)) (F71.J4 call lf ro (Int.fdiv x0 4294967296) 32 h) (F71.J4 call lf ro x0 0 h)

noncomputable def F71.Ht (call : CT) (lf ro : Nat) (i : Nat) (e : Env) (h : Heap) : Out := .fail
noncomputable def F71.Ut (call : CT) (lf ro : Nat) (i : Nat) : Option (Env → Heap → Out) := ifJ (i == 7) (some (F71.PJ7 (F71.J7 call lf ro))) (ifJ (i == 4) (some (F71.PJ4 (F71.J4 call lf ro))) (none))

noncomputable def F71.CJ7 (call : CT) (lf ro : Nat) : COut → Out := endK Tryd.prog Tryd.f71

noncomputable def F71.KJ7 (call : CT) (lf ro : Nat) : COut → Out := endK Tryd.prog Tryd.f71

noncomputable def F71.CJ4 (call : CT) (lf ro : Nat) : COut → Out := endK Tryd.prog Tryd.f71

noncomputable def F71.KJ4 (call : CT) (lf ro : Nat) : COut → Out := endK Tryd.prog Tryd.f71

theorem F71.RJ7 (call : CT) (lf ro : Nat) (f : Nat → Option Value) (n4 : Int) (n5 : Int) (h6 : Heap) :
    execH Tryd.prog call ro (F71.Ht call lf ro) (F71.Ut call lf ro) (sub (codeOf Tryd.f71) [true, true, true]) (EF 25 (updF (updF f 0 (some (.int .u64 n4))) 2 (some (.int .i64 n5)))) h6 (F71.CJ7 call lf ro) = F71.J7 call lf ro n4 n5 h6 := by kernel_rfl

theorem F71.CKJ7 (call : CT) (lf ro : Nat) : KLe 25 (F71.CJ7 call lf ro) (F71.KJ7 call lf ro) :=
  (KLe.refl _)

theorem F71.BJ7 (call : CT) (lf ro : Nat) : ∀ e h, Shaped 25 e → LeO (F71.PJ7 (F71.J7 call lf ro) e h) (execK Tryd.prog call lf ro (sub (codeOf Tryd.f71) [true, true, true]) e h (F71.KJ7 call lf ro)) := by
    rintro e h ⟨f, rfl⟩
    unfold F71.PJ7
    refine getK_le fun w0 g0 => ?_
    rw [EF_get (by decide)] at g0
    refine intK_le fun n16 z20 => ?_
    subst z20
    refine getK_le fun w2 g2 => ?_
    rw [EF_get (by decide)] at g2
    refine intK_le fun n17 z21 => ?_
    subst z21
    have hr := F71.RJ7 call lf ro f n16 n17 h
    rw [updF_same g0, updF_same g2] at hr
    exact cut_le (H := (F71.Ht call lf ro)) (J := (F71.Ut call lf ro)) (F71.CKJ7 call lf ro) (hd_free rfl) hr

theorem F71.RJ4 (call : CT) (lf ro : Nat) (f : Nat → Option Value) (n1 : Int) (n2 : Int) (h3 : Heap) :
    execH Tryd.prog call ro (F71.Ht call lf ro) (F71.Ut call lf ro) (sub (codeOf Tryd.f71) [true, true]) (EF 25 (updF (updF f 0 (some (.int .u64 n1))) 2 (some (.int .i64 n2)))) h3 (F71.CJ4 call lf ro) = F71.J4 call lf ro n1 n2 h3 := by kernel_rfl

theorem F71.CKJ4 (call : CT) (lf ro : Nat) : KLe 25 (F71.CJ4 call lf ro) (F71.KJ4 call lf ro) :=
  (KLe.refl _)

theorem F71.BJ4 (call : CT) (lf ro : Nat) : ∀ e h, Shaped 25 e → LeO (F71.PJ4 (F71.J4 call lf ro) e h) (execK Tryd.prog call lf ro (sub (codeOf Tryd.f71) [true, true]) e h (F71.KJ4 call lf ro)) := by
    rintro e h ⟨f, rfl⟩
    unfold F71.PJ4
    refine getK_le fun w0 g0 => ?_
    rw [EF_get (by decide)] at g0
    refine intK_le fun n18 z24 => ?_
    subst z24
    refine getK_le fun w2 g2 => ?_
    rw [EF_get (by decide)] at g2
    refine intK_le fun n19 z25 => ?_
    subst z25
    have hr := F71.RJ4 call lf ro f n18 n19 h
    rw [updF_same g0, updF_same g2] at hr
    exact cut_le (H := (F71.Ht call lf ro)) (J := (F71.Ut call lf ro)) (F71.CKJ4 call lf ro) ⟨(hd_free rfl), (fun e h hs => F71.BJ7 call lf ro  e h hs)⟩ hr

theorem F71.le (call : CT) (lf ro : Nat) (x0 : Int) (h : Heap) : LeO (F71.t call lf ro x0 h) (bodyK Tryd.prog call lf ro Tryd.f71 [.int .u64 x0] h) :=
  body_le (c := codeOf Tryd.f71) (H := F71.Ht call lf ro) (J := F71.Ut call lf ro) rfl (Nat.le_of_ble_eq_true rfl) ⟨(hd_free rfl), ⟨(hd_free rfl), (fun e h hs => F71.BJ4 call lf ro  e h hs)⟩⟩ (by kernel_rfl)

/-! ### internal/strconv.bool2[int]: function 72 -/

noncomputable def F72.t (call : CT) (lf ro : Nat) (x0 : Bool) (h : Heap) : Out :=
  ifK x0 (Out.ok (.int .i64 1) h) (Out.ok (.int .i64 0) h)

noncomputable def F72.Ht (call : CT) (lf ro : Nat) (i : Nat) (e : Env) (h : Heap) : Out := .fail
noncomputable def F72.Ut (call : CT) (lf ro : Nat) (i : Nat) : Option (Env → Heap → Out) := none

theorem F72.le (call : CT) (lf ro : Nat) (x0 : Bool) (h : Heap) : LeO (F72.t call lf ro x0 h) (bodyK Tryd.prog call lf ro Tryd.f72 [.bool x0] h) :=
  body_le (c := codeOf Tryd.f72) (H := F72.Ht call lf ro) (J := F72.Ut call lf ro) rfl (Nat.le_of_ble_eq_true rfl) (hd_free rfl) (by kernel_rfl)

end Go.Proofs.YtgpnjdldpehidaaDoor
