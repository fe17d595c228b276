/-
  The program's functions, as the interpreter runs them, written out; no statement of the seat is proved in this file.
-/
import Derived.Test.YtgpnjdldpehidaaDoorProg
import Derived.KernelRfl
import Derived.Test.YtgpnjdldpehidaaDoorAbsB
open Go Go.Abs Go.Proofs
set_option maxRecDepth 100000
set_option linter.unusedVariables false
namespace Go.Proofs.YtgpnjdldpehidaaDoor

/-! ### barscan/barscanlaw32.NetpbmWrites: function 3 -/

noncomputable def F3.J3 (call : CT) (lf ro : Nat) (n15 : Int) (p16 : Nat) (o16 : Nat) (h17 : Heap) : Out :=
  bindO (loadO Tryd.prog 24 (.pointer (some ⟨p16, o16, none⟩)) h17) fun v39 h40 =>
  aggK v39 fun q41 =>
  consK q41 fun x42 q43 =>
  intK .i64 x42 fun n44 =>
  consK q43 fun x45 q46 =>
  intK .i64 x45 fun n47 =>
  consK q46 fun x48 q49 =>
  sliceK x48 fun a50 l50 c50 =>
  nilK q49 <|
  bindO (call ro 10 [.agg #[.int .i64 n44, .int .i64 n47, .slice a50 l50 c50], .int .i64 n15] h40) fun v51 h52 =>
  tupK v51 fun q53 =>
  consK q53 fun x54 q55 =>
  sliceK x54 fun a56 l56 c56 =>
  consK q55 fun x57 q58 =>
  intK .i64 x57 fun n59 =>
  nilK q58 <|
  bindO (loadO Tryd.prog 24 (.pointer (some ⟨p16, o16, none⟩)) h52) fun v81 h82 =>
  aggK v81 fun q83 =>
  consK q83 fun x84 q85 =>
  intK .i64 x84 fun n86 =>
  consK q85 fun x87 q88 =>
  intK .i64 x87 fun n89 =>
  consK q88 fun x90 q91 =>
  sliceK x90 fun a92 l92 c92 =>
  nilK q91 <|
  bindO (call ro 11 [.agg #[.int .i64 n86, .int .i64 n89, .slice a92 l92 c92], .int .i64 n15] h82) fun v93 h94 =>
  tupK v93 fun q95 =>
  consK q95 fun x96 q97 =>
  sliceK x96 fun a98 l98 c98 =>
  consK q97 fun x99 q100 =>
  intK .i64 x99 fun n101 =>
  nilK q100 <|
  letJ (fun (b111 : Bool) (h112 : Heap) =>
  (Out.ok (.bool b111) h112)) fun j113 =>
  ifK (n59 == n101) (bindO (conv Tryd.prog ro 22 9 (.slice a56 l56 c56) h94) fun v114 h115 =>
  strK v114 fun s116 =>
  bindO (conv Tryd.prog ro 22 9 (.slice a98 l98 c98) h115) fun v117 h118 =>
  strK v117 fun s119 =>
  ifK (s116.toList == s119.toList) (bindO (call ro 9 [] h118) fun v120 h121 =>
  boolK v120 fun b122 =>
  j113 b122 h121) (j113 false h118)) (j113 false h94)

noncomputable def F3.PJ3 (kb : Int → Nat → Nat → Heap → Out) (e : Env) (h : Heap) : Out :=
  getK (e.get 1) fun w1 =>
  intK .i64 w1 fun n123 =>
  getK (e.get 2) fun w2 =>
  ptrK w2 fun p124 o124 =>
  kb n123 p124 o124 h

noncomputable def F3.t (call : CT) (lf ro : Nat) (x0_0 : Int) (x0_1 : Int) (ax0_2 : Option Addr) (lx0_2 : Nat) (cx0_2 : Nat) (x1 : Int) (h : Heap) : Out :=
  pushJ h 1 [.int .i64 x0_0, .int .i64 x0_1, .slice ax0_2 lx0_2 cx0_2] fun h2 =>
  bindO (loadO Tryd.prog 22 (.pointer (some ⟨h.next, 2, none⟩)) h2) fun v6 h7 =>
  sliceK v6 fun a8 l8 c8 =>
  ifK (decide ((l8 : Int) > 2000)) (bindO (call ro 9 [] h7) fun v12 h13 =>
  boolK v12 fun b14 =>
  Out.ok (.bool b14) h13) (F3.J3 call lf ro x1 h.next 0 h7)

noncomputable def F3.Ht (call : CT) (lf ro : Nat) (i : Nat) (e : Env) (h : Heap) : Out := .fail
noncomputable def F3.Ut (call : CT) (lf ro : Nat) (i : Nat) : Option (Env → Heap → Out) := ifJ (i == 3) (some (F3.PJ3 (F3.J3 call lf ro))) (none)

noncomputable def F3.CJ3 (call : CT) (lf ro : Nat) : COut → Out := endK Tryd.prog Tryd.f3

noncomputable def F3.KJ3 (call : CT) (lf ro : Nat) : COut → Out := endK Tryd.prog Tryd.f3

theorem F3.RJ3 (call : CT) (lf ro : Nat) (f : Nat → Option Value) (n15 : Int) (p16 : Nat) (o16 : Nat) (h17 : Heap) :
    execH Tryd.prog call ro (F3.Ht call lf ro) (F3.Ut call lf ro) (sub (codeOf Tryd.f3) [true, true]) (EF 39 (updF (updF f 1 (some (.int .i64 n15))) 2 (some (.pointer (some ⟨p16, o16, none⟩))))) h17 (F3.CJ3 call lf ro) = F3.J3 call lf ro n15 p16 o16 h17 := by kernel_rfl

theorem F3.CKJ3 (call : CT) (lf ro : Nat) : KLe 39 (F3.CJ3 call lf ro) (F3.KJ3 call lf ro) :=
  (KLe.refl _)

theorem F3.BJ3 (call : CT) (lf ro : Nat) : ∀ e h, Shaped 39 e → LeO (F3.PJ3 (F3.J3 call lf ro) e h) (execK Tryd.prog call lf ro (sub (codeOf Tryd.f3) [true, true]) e h (F3.KJ3 call lf ro)) := by
    rintro e h ⟨f, rfl⟩
    unfold F3.PJ3
    refine getK_le fun w1 g1 => ?_
    rw [EF_get (by decide)] at g1
    refine intK_le fun n123 z125 => ?_
    subst z125
    refine getK_le fun w2 g2 => ?_
    rw [EF_get (by decide)] at g2
    refine ptrK_le fun p124 o124 z126 => ?_
    subst z126
    have hr := F3.RJ3 call lf ro f n123 p124 o124 h
    rw [updF_same g1, updF_same g2] at hr
    exact cut_le (H := (F3.Ht call lf ro)) (J := (F3.Ut call lf ro)) (F3.CKJ3 call lf ro) (hd_free rfl) hr

theorem F3.le (call : CT) (lf ro : Nat) (x0_0 : Int) (x0_1 : Int) (ax0_2 : Option Addr) (lx0_2 : Nat) (cx0_2 : Nat) (x1 : Int) (h : Heap) : LeO (F3.t call lf ro x0_0 x0_1 ax0_2 lx0_2 cx0_2 x1 h) (bodyK Tryd.prog call lf ro Tryd.f3 [.agg #[.int .i64 x0_0, .int .i64 x0_1, .slice ax0_2 lx0_2 cx0_2], .int .i64 x1] h) :=
  body_le (c := codeOf Tryd.f3) (H := F3.Ht call lf ro) (J := F3.Ut call lf ro) rfl (Nat.le_of_ble_eq_true rfl) ⟨(hd_free rfl), ⟨(hd_free rfl), (fun e h hs => F3.BJ3 call lf ro  e h hs)⟩⟩ (by kernel_rfl)

/-! ### barscan/netpbm.Write: function 10 -/

noncomputable def F10.J13 (call : CT) (lf ro : Nat) (kb12 : Int → Nat → Nat → (Option Addr) → Nat → Nat → Int → Int → Heap → Out) (n109 : Int) (p110 : Nat) (o110 : Nat) (a111 : Option Addr) (l111 : Nat) (c111 : Nat) (n112 : Int) (n113 : Int) (h114 : Heap) : Out :=
  letJ (fun (a226 : Option Addr) (l226 : Nat) (c226 : Nat) (h227 : Heap) =>
  (kb12 n109 p110 o110 a226 l226 c226 n112 (IntKind.i64.wrap (n113 + 1)) h227)) fun j228 =>
  bindO (loadO Tryd.prog 22 (.pointer (some ⟨p110, o110 + 2, none⟩)) h114) fun v241 h242 =>
  sliceK v241 fun a243 l243 c243 =>
  bindO (loadO Tryd.prog 3 (.pointer (some ⟨p110, o110 + 0, none⟩)) h242) fun v244 h245 =>
  intK .i64 v244 fun n246 =>
  bindO (loadO Tryd.prog 3 (.pointer (some ⟨p110, o110 + 0, none⟩)) h245) fun v247 h248 =>
  intK .i64 v247 fun n249 =>
  bindO (sliceO Tryd.prog 22 (.slice a243 l243 c243) (some (.int .i64 (IntKind.i64.wrap (n113 * n246)))) (some (.int .i64 (IntKind.i64.wrap ((IntKind.i64.wrap (n113 + 1)) * n249)))) h248) fun v250 h251 =>
  sliceK v250 fun a252 l252 c252 =>
  ifK (n109 == 1) (bindO (call ro 25 [.slice a111 l111 c111, .slice a252 l252 c252] h251) fun v253 h254 =>
  sliceK v253 fun a255 l255 c255 =>
  j228 a255 l255 c255 h254) (ifK (n109 == 2) (bindO (call ro 26 [.slice a111 l111 c111, .slice a252 l252 c252] h251) fun v256 h257 =>
  sliceK v256 fun a258 l258 c258 =>
  j228 a258 l258 c258 h257) (ifK (n109 == 4) (bindO (call ro 27 [.slice a111 l111 c111, .slice a252 l252 c252] h251) fun v259 h260 =>
  sliceK v259 fun a261 l261 c261 =>
  j228 a261 l261 c261 h260) (bindO (appO Tryd.prog ro 22 22 (.slice a111 l111 c111) (.slice a252 l252 c252) h251) fun v262 h263 =>
  sliceK v262 fun a264 l264 c264 =>
  j228 a264 l264 c264 h263)))

noncomputable def F10.PJ13 (kb : Int → Nat → Nat → (Option Addr) → Nat → Nat → Int → Int → Heap → Out) (e : Env) (h : Heap) : Out :=
  getK (e.get 1) fun w1 =>
  intK .i64 w1 fun n265 =>
  getK (e.get 2) fun w2 =>
  ptrK w2 fun p266 o266 =>
  getK (e.get 6) fun w6 =>
  sliceK w6 fun a267 l267 c267 =>
  getK (e.get 47) fun w47 =>
  intK .i64 w47 fun n268 =>
  getK (e.get 48) fun w48 =>
  intK .i64 w48 fun n269 =>
  kb n265 p266 o266 a267 l267 c267 n268 n269 h

noncomputable def F10.L12 (call : CT) (lf ro : Nat) : Nat → Int → Nat → Nat → (Option Addr) → Nat → Nat → Int → Int → Heap → Out
  | 0, _, _, _, _, _, _, _, _, _ => .fail
  | n + 1, n103, p104, o104, a105, l105, c105, n106, n107, h108 =>
  ifK (decide (n107 < n106)) (F10.J13 call lf ro (F10.L12 call lf ro n) n103 p104 o104 a105 l105 c105 n106 n107 h108) (Out.ok (.tuple #[.slice a105 l105 c105, .int .i64 0]) h108)

noncomputable def F10.P12 (kb : Int → Nat → Nat → (Option Addr) → Nat → Nat → Int → Int → Heap → Out) (e : Env) (h : Heap) : Out :=
  getK (e.get 1) fun w1 =>
  intK .i64 w1 fun n270 =>
  getK (e.get 2) fun w2 =>
  ptrK w2 fun p271 o271 =>
  getK (e.get 6) fun w6 =>
  sliceK w6 fun a272 l272 c272 =>
  getK (e.get 47) fun w47 =>
  intK .i64 w47 fun n273 =>
  getK (e.get 48) fun w48 =>
  intK .i64 w48 fun n274 =>
  kb n270 p271 o271 a272 l272 c272 n273 n274 h

noncomputable def F10.J11 (call : CT) (lf ro : Nat) (n93 : Int) (p94 : Nat) (o94 : Nat) (a95 : Option Addr) (l95 : Nat) (c95 : Nat) (h96 : Heap) : Out :=
  bindO (loadO Tryd.prog 3 (.pointer (some ⟨p94, o94 + 1, none⟩)) h96) fun v100 h101 =>
  intK .i64 v100 fun n102 =>
  F10.L12 call lf ro lf n93 p94 o94 a95 l95 c95 n102 0 h101

noncomputable def F10.PJ11 (kb : Int → Nat → Nat → (Option Addr) → Nat → Nat → Heap → Out) (e : Env) (h : Heap) : Out :=
  getK (e.get 1) fun w1 =>
  intK .i64 w1 fun n275 =>
  getK (e.get 2) fun w2 =>
  ptrK w2 fun p276 o276 =>
  getK (e.get 6) fun w6 =>
  sliceK w6 fun a277 l277 c277 =>
  kb n275 p276 o276 a277 l277 c277 h

noncomputable def F10.J5 (call : CT) (lf ro : Nat) (n39 : Int) (p40 : Nat) (o40 : Nat) (h41 : Heap) : Out :=
  pushJ h41 1 [.int .u8 80, .int .u8 (IntKind.u8.wrap (48 + (IntKind.u8.wrap n39))), .int .u8 10] fun h43 =>
  bindO (loadO Tryd.prog 3 (.pointer (some ⟨p40, o40 + 0, none⟩)) h43) fun v50 h51 =>
  intK .i64 v50 fun n52 =>
  bindO (call ro 24 [.slice (some ⟨h41.next, 0, none⟩) 3 3, .int .i64 n52, .int .i64 10] h51) fun v53 h54 =>
  sliceK v53 fun a55 l55 c55 =>
  pushJ h54 1 [.int .u8 32] fun h66 =>
  bindN (appO Tryd.prog ro 22 22 (.slice a55 l55 c55) (.slice (some ⟨h54.next, 0, none⟩) 1 1) h66) fun v67 h68 =>
  sliceK v67 fun a69 l69 c69 =>
  bindN (loadO Tryd.prog 3 (.pointer (some ⟨p40, o40 + 1, none⟩)) h68) fun v70 h71 =>
  intK .i64 v70 fun n72 =>
  ifK ((apartB (touch (some (.slice a55 l55 c55))) (touch (some (.pointer (some ⟨p40, o40 + 1, none⟩)))) && true) && true) (bindO (call ro 24 [.slice a69 l69 c69, .int .i64 n72, .int .i64 10] h71) fun v73 h74 =>
  sliceK v73 fun a75 l75 c75 =>
  pushJ h74 1 [.int .u8 10] fun h80 =>
  bindO (appO Tryd.prog ro 22 22 (.slice a75 l75 c75) (.slice (some ⟨h74.next, 0, none⟩) 1 1) h80) fun v81 h82 =>
  sliceK v81 fun a83 l83 c83 =>
  bindO (call ro 21 [.int .i64 n39] h82) fun v87 h88 =>
  boolK v87 fun b89 =>
  ifK (!b89) (bindO (appO Tryd.prog ro 22 9 (.slice a83 l83 c83) (.string (⟨#[50, 53, 53, 10]⟩ : ByteArray)) h88) fun v90 h91 =>
  sliceK v90 fun a92 l92 c92 =>
  F10.J11 call lf ro n39 p40 o40 a92 l92 c92 h91) (F10.J11 call lf ro n39 p40 o40 a83 l83 c83 h88)) (.fail)

noncomputable def F10.PJ5 (kb : Int → Nat → Nat → Heap → Out) (e : Env) (h : Heap) : Out :=
  getK (e.get 1) fun w1 =>
  intK .i64 w1 fun n278 =>
  getK (e.get 2) fun w2 =>
  ptrK w2 fun p279 o279 =>
  kb n278 p279 o279 h

noncomputable def F10.J3 (call : CT) (lf ro : Nat) (n24 : Int) (p25 : Nat) (o25 : Nat) (h26 : Heap) : Out :=
  letJ (fun (b36 : Bool) (h37 : Heap) =>
  (ifK b36 (Out.ok (.tuple #[.slice none 0 0, .int .i64 3]) h37) (F10.J5 call lf ro n24 p25 o25 h37))) fun j38 =>
  bindO (call ro 21 [.int .i64 n24] h26) fun v280 h281 =>
  boolK v280 fun b282 =>
  ifK b282 (bindO (loadO Tryd.prog 22 (.pointer (some ⟨p25, o25 + 2, none⟩)) h281) fun v283 h284 =>
  sliceK v283 fun a285 l285 c285 =>
  bindO (call ro 22 [.slice a285 l285 c285, .func (.func 23) #[] #[]] h284) fun v286 h287 =>
  boolK v286 fun b288 =>
  j38 b288 h287) (j38 false h281)

noncomputable def F10.PJ3 (kb : Int → Nat → Nat → Heap → Out) (e : Env) (h : Heap) : Out :=
  getK (e.get 1) fun w1 =>
  intK .i64 w1 fun n289 =>
  getK (e.get 2) fun w2 =>
  ptrK w2 fun p290 o290 =>
  kb n289 p290 o290 h

noncomputable def F10.t (call : CT) (lf ro : Nat) (x0_0 : Int) (x0_1 : Int) (ax0_2 : Option Addr) (lx0_2 : Nat) (cx0_2 : Nat) (x1 : Int) (h : Heap) : Out :=
  pushJ h 1 [.int .i64 x0_0, .int .i64 x0_1, .slice ax0_2 lx0_2 cx0_2] fun h2 =>
  letJ (fun (b21 : Bool) (h22 : Heap) =>
  (ifK b21 (Out.ok (.tuple #[.slice none 0 0, .int .i64 1]) h22) (F10.J3 call lf ro x1 h.next 0 h22))) fun j23 =>
  bindO (loadO Tryd.prog 24 (.pointer (some ⟨h.next, 0, none⟩)) h2) fun v291 h292 =>
  aggK v291 fun q293 =>
  consK q293 fun x294 q295 =>
  intK .i64 x294 fun n296 =>
  consK q295 fun x297 q298 =>
  intK .i64 x297 fun n299 =>
  consK q298 fun x300 q301 =>
  sliceK x300 fun a302 l302 c302 =>
  nilK q301 <|
  bindO (call ro 19 [.agg #[.int .i64 n296, .int .i64 n299, .slice a302 l302 c302]] h292) fun v303 h304 =>
  intK .i64 v303 fun n305 =>
  ifK (n305 != 0) (j23 true h304) (bindO (call ro 20 [.int .i64 x1] h304) fun v306 h307 =>
  boolK v306 fun b308 =>
  j23 (!b308) h307)

noncomputable def F10.Ht (call : CT) (lf ro : Nat) (i : Nat) (e : Env) (h : Heap) : Out := ifK (i == 12) (F10.P12 (F10.L12 call lf ro lf) e h) (.fail)
noncomputable def F10.Ut (call : CT) (lf ro : Nat) (i : Nat) : Option (Env → Heap → Out) := ifJ (i == 11) (some (F10.PJ11 (F10.J11 call lf ro))) (ifJ (i == 5) (some (F10.PJ5 (F10.J5 call lf ro))) (ifJ (i == 3) (some (F10.PJ3 (F10.J3 call lf ro))) (none)))

noncomputable def F10.H12 (call : CT) (lf ro : Nat) (kb12 : Int → Nat → Nat → (Option Addr) → Nat → Nat → Int → Int → Heap → Out) (i : Nat) (e : Env) (h : Heap) : Out := ifK (i == 12) (F10.P12 (F10.L12 call lf ro lf) e h) (.fail)
noncomputable def F10.U12 (call : CT) (lf ro : Nat) (kb12 : Int → Nat → Nat → (Option Addr) → Nat → Nat → Int → Int → Heap → Out) (i : Nat) : Option (Env → Heap → Out) := ifJ (i == 13) (some (F10.PJ13 (F10.J13 call lf ro kb12))) (ifJ (i == 11) (some (F10.PJ11 (F10.J11 call lf ro))) (ifJ (i == 5) (some (F10.PJ5 (F10.J5 call lf ro))) (ifJ (i == 3) (some (F10.PJ3 (F10.J3 call lf ro))) (none))))

noncomputable def F10.C12 (call : CT) (lf ro : Nat) : COut → Out := blockK 0 (seqH Tryd.prog call ro (F10.Ht call lf ro) (F10.Ut call lf ro) (sub (codeOf Tryd.f10) [true, true, true, true, true, true, true, true, true]) (endK Tryd.prog Tryd.f10))

noncomputable def F10.K12 (call : CT) (lf ro : Nat) : COut → Out := blockK 0 (seqK Tryd.prog call lf ro (sub (codeOf Tryd.f10) [true, true, true, true, true, true, true, true, true]) (endK Tryd.prog Tryd.f10))

noncomputable def F10.CJ11 (call : CT) (lf ro : Nat) : COut → Out := endK Tryd.prog Tryd.f10

noncomputable def F10.KJ11 (call : CT) (lf ro : Nat) : COut → Out := endK Tryd.prog Tryd.f10

noncomputable def F10.CJ5 (call : CT) (lf ro : Nat) : COut → Out := endK Tryd.prog Tryd.f10

noncomputable def F10.KJ5 (call : CT) (lf ro : Nat) : COut → Out := endK Tryd.prog Tryd.f10

noncomputable def F10.CJ3 (call : CT) (lf ro : Nat) : COut → Out := endK Tryd.prog Tryd.f10

noncomputable def F10.KJ3 (call : CT) (lf ro : Nat) : COut → Out := endK Tryd.prog Tryd.f10

noncomputable def F10.CJ13 (call : CT) (lf ro : Nat) (kb12 : Int → Nat → Nat → (Option Addr) → Nat → Nat → Int → Int → Heap → Out) : COut → Out := outK (F10.P12 kb12) (fun i e h => F10.C12 call lf ro (.exit i e h)) (fun e h => F10.C12 call lf ro (.ret e h))

noncomputable def F10.KJ13 (call : CT) (lf ro : Nat) (kb12 : Int → Nat → Nat → (Option Addr) → Nat → Nat → Int → Int → Heap → Out) : COut → Out := outK (F10.P12 kb12) (fun i e h => F10.C12 call lf ro (.exit i e h)) (fun e h => F10.C12 call lf ro (.ret e h))

theorem F10.RJ13 (call : CT) (lf ro : Nat) (kb12 : Int → Nat → Nat → (Option Addr) → Nat → Nat → Int → Int → Heap → Out) (f : Nat → Option Value) (n109 : Int) (p110 : Nat) (o110 : Nat) (a111 : Option Addr) (l111 : Nat) (c111 : Nat) (n112 : Int) (n113 : Int) (h114 : Heap) :
    execH Tryd.prog call ro (F10.H12 call lf ro kb12) (F10.U12 call lf ro kb12) (sub (codeOf Tryd.f10) [true, true, true, true, true, true, true, true, false, true, false, false, true, true]) (EF 84 (updF (updF (updF (updF (updF f 1 (some (.int .i64 n109))) 2 (some (.pointer (some ⟨p110, o110, none⟩)))) 6 (some (.slice a111 l111 c111))) 47 (some (.int .i64 n112))) 48 (some (.int .i64 n113)))) h114 (F10.CJ13 call lf ro kb12) = F10.J13 call lf ro kb12 n109 p110 o110 a111 l111 c111 n112 n113 h114 := by kernel_rfl

theorem F10.CKJ13 (call : CT) (lf ro : Nat) (kb12 : Int → Nat → Nat → (Option Addr) → Nat → Nat → Int → Int → Heap → Out) : KLe 84 (F10.CJ13 call lf ro kb12) (F10.KJ13 call lf ro kb12) :=
  (KLe.refl _)

theorem F10.BJ13 (call : CT) (lf ro : Nat) (kb12 : Int → Nat → Nat → (Option Addr) → Nat → Nat → Int → Int → Heap → Out) : ∀ e h, Shaped 84 e → LeO (F10.PJ13 (F10.J13 call lf ro kb12) e h) (execK Tryd.prog call lf ro (sub (codeOf Tryd.f10) [true, true, true, true, true, true, true, true, false, true, false, false, true, true]) e h (F10.KJ13 call lf ro kb12)) := by
    rintro e h ⟨f, rfl⟩
    unfold F10.PJ13
    refine getK_le fun w1 g1 => ?_
    rw [EF_get (by decide)] at g1
    refine intK_le fun n265 z309 => ?_
    subst z309
    refine getK_le fun w2 g2 => ?_
    rw [EF_get (by decide)] at g2
    refine ptrK_le fun p266 o266 z310 => ?_
    subst z310
    refine getK_le fun w6 g6 => ?_
    rw [EF_get (by decide)] at g6
    refine sliceK_le fun a267 l267 c267 z311 => ?_
    subst z311
    refine getK_le fun w47 g47 => ?_
    rw [EF_get (by decide)] at g47
    refine intK_le fun n268 z312 => ?_
    subst z312
    refine getK_le fun w48 g48 => ?_
    rw [EF_get (by decide)] at g48
    refine intK_le fun n269 z313 => ?_
    subst z313
    have hr := F10.RJ13 call lf ro kb12 f n265 p266 o266 a267 l267 c267 n268 n269 h
    rw [updF_same g1, updF_same g2, updF_same g6, updF_same g47, updF_same g48] at hr
    exact cut_le (H := (F10.H12 call lf ro kb12)) (J := (F10.U12 call lf ro kb12)) (F10.CKJ13 call lf ro kb12) (hd_free rfl) hr

theorem F10.R12 (call : CT) (lf ro : Nat) (n : Nat) (f : Nat → Option Value) (n103 : Int) (p104 : Nat) (o104 : Nat) (a105 : Option Addr) (l105 : Nat) (c105 : Nat) (n106 : Int) (n107 : Int) (h108 : Heap) :
    execH Tryd.prog call ro (F10.H12 call lf ro (F10.L12 call lf ro n)) (F10.U12 call lf ro (F10.L12 call lf ro n)) (sub (codeOf Tryd.f10) [true, true, true, true, true, true, true, true, false, true, false, false]) (EF 84 (updF (updF (updF (updF (updF f 1 (some (.int .i64 n103))) 2 (some (.pointer (some ⟨p104, o104, none⟩)))) 6 (some (.slice a105 l105 c105))) 47 (some (.int .i64 n106))) 48 (some (.int .i64 n107)))) h108 (outK (F10.P12 (F10.L12 call lf ro n)) (fun i e h => F10.C12 call lf ro (.exit i e h)) (fun e h => F10.C12 call lf ro (.ret e h))) = F10.L12 call lf ro (n + 1) n103 p104 o104 a105 l105 c105 n106 n107 h108 := by kernel_rfl

theorem F10.CK12 (call : CT) (lf ro : Nat) : KLe 84 (F10.C12 call lf ro) (F10.K12 call lf ro) :=
  (KLe.block (KLe.seq (H := (F10.Ht call lf ro)) (J := (F10.Ut call lf ro)) (KLe.refl _) (hd_free rfl)))

theorem F10.B12 (call : CT) (lf ro : Nat) : ∀ n e h, Shaped 84 e → LeO (F10.P12 (F10.L12 call lf ro n) e h) (loopK (execK Tryd.prog call lf ro (sub (codeOf Tryd.f10) [true, true, true, true, true, true, true, true, false, true, false, false])) n e h (F10.K12 call lf ro)) := by
  refine loop_le (fun e h k k' hs hk => execK_mono _ e h k k' hs hk) (kb := fun n => F10.P12 (F10.L12 call lf ro n)) (kx := fun i e h => F10.C12 call lf ro (.exit i e h)) (kr := fun e h => F10.C12 call lf ro (.ret e h)) ?_ ?_ (fun i e h hs => (F10.CK12 call lf ro).exit i e h hs) (fun e h hs => (F10.CK12 call lf ro).ret e h hs)
  · rintro e h ⟨f, rfl⟩
    unfold F10.P12
    refine getK_le fun w1 g1 => ?_
    rw [EF_get (by decide)] at g1
    refine intK_le fun n270 z319 => ?_
    subst z319
    refine getK_le fun w2 g2 => ?_
    rw [EF_get (by decide)] at g2
    refine ptrK_le fun p271 o271 z320 => ?_
    subst z320
    refine getK_le fun w6 g6 => ?_
    rw [EF_get (by decide)] at g6
    refine sliceK_le fun a272 l272 c272 z321 => ?_
    subst z321
    refine getK_le fun w47 g47 => ?_
    rw [EF_get (by decide)] at g47
    refine intK_le fun n273 z322 => ?_
    subst z322
    refine getK_le fun w48 g48 => ?_
    rw [EF_get (by decide)] at g48
    refine intK_le fun n274 z323 => ?_
    subst z323
    exact LeO.refl _
  · rintro n e h ⟨f, rfl⟩
    unfold F10.P12
    refine getK_le fun w1 g1 => ?_
    rw [EF_get (by decide)] at g1
    refine intK_le fun n270 z324 => ?_
    subst z324
    refine getK_le fun w2 g2 => ?_
    rw [EF_get (by decide)] at g2
    refine ptrK_le fun p271 o271 z325 => ?_
    subst z325
    refine getK_le fun w6 g6 => ?_
    rw [EF_get (by decide)] at g6
    refine sliceK_le fun a272 l272 c272 z326 => ?_
    subst z326
    refine getK_le fun w47 g47 => ?_
    rw [EF_get (by decide)] at g47
    refine intK_le fun n273 z327 => ?_
    subst z327
    refine getK_le fun w48 g48 => ?_
    rw [EF_get (by decide)] at g48
    refine intK_le fun n274 z328 => ?_
    subst z328
    have hr := F10.R12 call lf ro n f n270 p271 o271 a272 l272 c272 n273 n274 h
    rw [updF_same g1, updF_same g2, updF_same g6, updF_same g47, updF_same g48] at hr
    exact round_le (H := (F10.H12 call lf ro (F10.L12 call lf ro n))) (J := (F10.U12 call lf ro (F10.L12 call lf ro n))) ⟨(hd_free rfl), ⟨(hd_free rfl), (fun e h hs => F10.BJ13 call lf ro (F10.L12 call lf ro n) e h hs)⟩⟩ hr

theorem F10.RJ11 (call : CT) (lf ro : Nat) (f : Nat → Option Value) (n93 : Int) (p94 : Nat) (o94 : Nat) (a95 : Option Addr) (l95 : Nat) (c95 : Nat) (h96 : Heap) :
    execH Tryd.prog call ro (F10.Ht call lf ro) (F10.Ut call lf ro) (sub (codeOf Tryd.f10) [true, true, true, true, true, true, true, true]) (EF 84 (updF (updF (updF f 1 (some (.int .i64 n93))) 2 (some (.pointer (some ⟨p94, o94, none⟩)))) 6 (some (.slice a95 l95 c95)))) h96 (F10.CJ11 call lf ro) = F10.J11 call lf ro n93 p94 o94 a95 l95 c95 h96 := by kernel_rfl

theorem F10.CKJ11 (call : CT) (lf ro : Nat) : KLe 84 (F10.CJ11 call lf ro) (F10.KJ11 call lf ro) :=
  (KLe.refl _)

theorem F10.BJ11 (call : CT) (lf ro : Nat) : ∀ e h, Shaped 84 e → LeO (F10.PJ11 (F10.J11 call lf ro) e h) (execK Tryd.prog call lf ro (sub (codeOf Tryd.f10) [true, true, true, true, true, true, true, true]) e h (F10.KJ11 call lf ro)) := by
    rintro e h ⟨f, rfl⟩
    unfold F10.PJ11
    refine getK_le fun w1 g1 => ?_
    rw [EF_get (by decide)] at g1
    refine intK_le fun n275 z329 => ?_
    subst z329
    refine getK_le fun w2 g2 => ?_
    rw [EF_get (by decide)] at g2
    refine ptrK_le fun p276 o276 z330 => ?_
    subst z330
    refine getK_le fun w6 g6 => ?_
    rw [EF_get (by decide)] at g6
    refine sliceK_le fun a277 l277 c277 z331 => ?_
    subst z331
    have hr := F10.RJ11 call lf ro f n275 p276 o276 a277 l277 c277 h
    rw [updF_same g1, updF_same g2, updF_same g6] at hr
    exact cut_le (H := (F10.Ht call lf ro)) (J := (F10.Ut call lf ro)) (F10.CKJ11 call lf ro) ⟨⟨(hd_free rfl), (fun e h hs => F10.B12 call lf ro  lf e h hs)⟩, (hd_free rfl)⟩ hr

theorem F10.RJ5 (call : CT) (lf ro : Nat) (f : Nat → Option Value) (n39 : Int) (p40 : Nat) (o40 : Nat) (h41 : Heap) :
    execH Tryd.prog call ro (F10.Ht call lf ro) (F10.Ut call lf ro) (sub (codeOf Tryd.f10) [true, true, true]) (EF 84 (updF (updF f 1 (some (.int .i64 n39))) 2 (some (.pointer (some ⟨p40, o40, none⟩))))) h41 (F10.CJ5 call lf ro) = F10.J5 call lf ro n39 p40 o40 h41 := by kernel_rfl

theorem F10.CKJ5 (call : CT) (lf ro : Nat) : KLe 84 (F10.CJ5 call lf ro) (F10.KJ5 call lf ro) :=
  (KLe.refl _)

theorem F10.BJ5 (call : CT) (lf ro : Nat) : ∀ e h, Shaped 84 e → LeO (F10.PJ5 (F10.J5 call lf ro) e h) (execK Tryd.prog call lf ro (sub (codeOf Tryd.f10) [true, true, true]) e h (F10.KJ5 call lf ro)) := by
    rintro e h ⟨f, rfl⟩
    unfold F10.PJ5
    refine getK_le fun w1 g1 => ?_
    rw [EF_get (by decide)] at g1
    refine intK_le fun n278 z335 => ?_
    subst z335
    refine getK_le fun w2 g2 => ?_
    rw [EF_get (by decide)] at g2
    refine ptrK_le fun p279 o279 z336 => ?_
    subst z336
    have hr := F10.RJ5 call lf ro f n278 p279 o279 h
    rw [updF_same g1, updF_same g2] at hr
    exact cut_le (H := (F10.Ht call lf ro)) (J := (F10.Ut call lf ro)) (F10.CKJ5 call lf ro) ⟨(hd_free rfl), ⟨(hd_free rfl), ⟨(hd_free rfl), ⟨(hd_free rfl), ⟨(hd_free rfl), (fun e h hs => F10.BJ11 call lf ro  e h hs)⟩⟩⟩⟩⟩ hr

theorem F10.RJ3 (call : CT) (lf ro : Nat) (f : Nat → Option Value) (n24 : Int) (p25 : Nat) (o25 : Nat) (h26 : Heap) :
    execH Tryd.prog call ro (F10.Ht call lf ro) (F10.Ut call lf ro) (sub (codeOf Tryd.f10) [true, true]) (EF 84 (updF (updF f 1 (some (.int .i64 n24))) 2 (some (.pointer (some ⟨p25, o25, none⟩))))) h26 (F10.CJ3 call lf ro) = F10.J3 call lf ro n24 p25 o25 h26 := by kernel_rfl

theorem F10.CKJ3 (call : CT) (lf ro : Nat) : KLe 84 (F10.CJ3 call lf ro) (F10.KJ3 call lf ro) :=
  (KLe.refl _)

theorem F10.BJ3 (call : CT) (lf ro : Nat) : ∀ e h, Shaped 84 e → LeO (F10.PJ3 (F10.J3 call lf ro) e h) (execK Tryd.prog call lf ro (sub (codeOf Tryd.f10) [true, true]) e h (F10.KJ3 call lf ro)) := by
    rintro e h ⟨f, rfl⟩
    unfold F10.PJ3
    refine getK_le fun w1 g1 => ?_
    rw [EF_get (by decide)] at g1
    refine intK_le fun n289 z339 => ?_
    subst z339
    refine getK_le fun w2 g2 => ?_
    rw [EF_get (by decide)] at g2
    refine ptrK_le fun p290 o290 z340 => ?_
    subst z340
    have hr := F10.RJ3 call lf ro f n289 p290 o290 h
    rw [updF_same g1, updF_same g2] at hr
    exact cut_le (H := (F10.Ht call lf ro)) (J := (F10.Ut call lf ro)) (F10.CKJ3 call lf ro) ⟨(hd_free rfl), (fun e h hs => F10.BJ5 call lf ro  e h hs)⟩ hr

theorem F10.le (call : CT) (lf ro : Nat) (x0_0 : Int) (x0_1 : Int) (ax0_2 : Option Addr) (lx0_2 : Nat) (cx0_2 : Nat) (x1 : Int) (h : Heap) : LeO (F10.t call lf ro x0_0 x0_1 ax0_2 lx0_2 cx0_2 x1 h) (bodyK Tryd.prog call lf ro Tryd.f10 [.agg #[.int .i64 x0_0, .int .i64 x0_1, .slice ax0_2 lx0_2 cx0_2], .int .i64 x1] h) :=
  body_le (c := codeOf Tryd.f10) (H := F10.Ht call lf ro) (J := F10.Ut call lf ro) rfl (Nat.le_of_ble_eq_true rfl) ⟨(hd_free rfl), ⟨(hd_free rfl), (fun e h hs => F10.BJ3 call lf ro  e h hs)⟩⟩ (by kernel_rfl)

/-! ### barscan/barscanref32.Write: function 11 -/

noncomputable def F11.J6 (call : CT) (lf ro : Nat) (kb4 : Int → Nat → Nat → Int → Heap → Out) (n40 : Int) (p41 : Nat) (o41 : Nat) (n42 : Int) (h43 : Heap) : Out :=
  letJ (fun (b95 : Bool) (h96 : Heap) =>
  (ifK b95 (Out.ok (.tuple #[.slice none 0 0, .int .i64 3]) h96) (kb4 n40 p41 o41 (IntKind.i64.wrap (n42 + 1)) h96))) fun j97 =>
  bindO (loadO Tryd.prog 22 (.pointer (some ⟨p41, o41 + 2, none⟩)) h43) fun v98 h99 =>
  sliceK v98 fun a100 l100 c100 =>
  bindO (idxO Tryd.prog 22 (.slice a100 l100 c100) (.int .i64 n42) h99) fun v101 h102 =>
  bindO (loadO Tryd.prog 5 v101 h102) fun v103 h104 =>
  intK .u8 v103 fun n105 =>
  ifK (n105 != 0) (bindO (loadO Tryd.prog 22 (.pointer (some ⟨p41, o41 + 2, none⟩)) h104) fun v106 h107 =>
  sliceK v106 fun a108 l108 c108 =>
  bindO (idxO Tryd.prog 22 (.slice a108 l108 c108) (.int .i64 n42) h107) fun v109 h110 =>
  bindO (loadO Tryd.prog 5 v109 h110) fun v111 h112 =>
  intK .u8 v111 fun n113 =>
  j97 (n113 != 255) h112) (j97 false h104)

noncomputable def F11.PJ6 (kb : Int → Nat → Nat → Int → Heap → Out) (e : Env) (h : Heap) : Out :=
  getK (e.get 1) fun w1 =>
  intK .i64 w1 fun n114 =>
  getK (e.get 2) fun w2 =>
  ptrK w2 fun p115 o115 =>
  getK (e.get 6) fun w6 =>
  intK .i64 w6 fun n116 =>
  kb n114 p115 o115 n116 h

noncomputable def F11.J15 (call : CT) (lf ro : Nat) (kb13 : Int → Nat → Nat → (Option Addr) → Nat → Nat → Int → Heap → Out) (n216 : Int) (p217 : Nat) (o217 : Nat) (a218 : Option Addr) (l218 : Nat) (c218 : Nat) (n219 : Int) (h220 : Heap) : Out :=
  letJ (fun (a395 : Option Addr) (l395 : Nat) (c395 : Nat) (h396 : Heap) =>
  (kb13 n216 p217 o217 a395 l395 c395 (IntKind.i64.wrap (n219 + 1)) h396)) fun j397 =>
  bindO (loadO Tryd.prog 22 (.pointer (some ⟨p217, o217 + 2, none⟩)) h220) fun v413 h414 =>
  sliceK v413 fun a415 l415 c415 =>
  bindO (loadO Tryd.prog 3 (.pointer (some ⟨p217, o217 + 0, none⟩)) h414) fun v416 h417 =>
  intK .i64 v416 fun n418 =>
  bindO (loadO Tryd.prog 3 (.pointer (some ⟨p217, o217 + 0, none⟩)) h417) fun v419 h420 =>
  intK .i64 v419 fun n421 =>
  bindO (loadO Tryd.prog 3 (.pointer (some ⟨p217, o217 + 0, none⟩)) h420) fun v422 h423 =>
  intK .i64 v422 fun n424 =>
  bindO (sliceO Tryd.prog 22 (.slice a415 l415 c415) (some (.int .i64 (IntKind.i64.wrap (n219 * n418)))) (some (.int .i64 (IntKind.i64.wrap ((IntKind.i64.wrap (n219 * n421)) + n424)))) h423) fun v425 h426 =>
  sliceK v425 fun a427 l427 c427 =>
  bindO (call ro 32 [.int .i64 n216] h426) fun v431 h432 =>
  boolK v431 fun b433 =>
  ifK b433 (bindO (call ro 33 [.slice a427 l427 c427, .int .i64 n216] h432) fun v434 h435 =>
  strK v434 fun s436 =>
  bindO (appO Tryd.prog ro 22 9 (.slice a218 l218 c218) (.string s436) h435) fun v437 h438 =>
  sliceK v437 fun a439 l439 c439 =>
  j397 a439 l439 c439 h438) (bindO (call ro 30 [.int .i64 n216] h432) fun v443 h444 =>
  boolK v443 fun b445 =>
  ifK b445 (bindO (appO Tryd.prog ro 22 22 (.slice a218 l218 c218) (.slice a427 l427 c427) h444) fun v446 h447 =>
  sliceK v446 fun a448 l448 c448 =>
  j397 a448 l448 c448 h447) (bindO (call ro 34 [.slice a427 l427 c427] h444) fun v449 h450 =>
  sliceK v449 fun a451 l451 c451 =>
  bindO (appO Tryd.prog ro 22 22 (.slice a218 l218 c218) (.slice a451 l451 c451) h450) fun v452 h453 =>
  sliceK v452 fun a454 l454 c454 =>
  j397 a454 l454 c454 h453))

noncomputable def F11.PJ15 (kb : Int → Nat → Nat → (Option Addr) → Nat → Nat → Int → Heap → Out) (e : Env) (h : Heap) : Out :=
  getK (e.get 1) fun w1 =>
  intK .i64 w1 fun n455 =>
  getK (e.get 2) fun w2 =>
  ptrK w2 fun p456 o456 =>
  getK (e.get 8) fun w8 =>
  sliceK w8 fun a457 l457 c457 =>
  getK (e.get 9) fun w9 =>
  intK .i64 w9 fun n458 =>
  kb n455 p456 o456 a457 l457 c457 n458 h

noncomputable def F11.L13 (call : CT) (lf ro : Nat) : Nat → Int → Nat → Nat → (Option Addr) → Nat → Nat → Int → Heap → Out
  | 0, _, _, _, _, _, _, _, _ => .fail
  | n + 1, n205, p206, o206, a207, l207, c207, n208, h209 =>
  bindO (loadO Tryd.prog 3 (.pointer (some ⟨p206, o206 + 1, none⟩)) h209) fun v462 h463 =>
  intK .i64 v462 fun n464 =>
  ifK (decide (n208 < n464)) (F11.J15 call lf ro (F11.L13 call lf ro n) n205 p206 o206 a207 l207 c207 n208 h463) (Out.ok (.tuple #[.slice a207 l207 c207, .int .i64 0]) h463)

noncomputable def F11.P13 (kb : Int → Nat → Nat → (Option Addr) → Nat → Nat → Int → Heap → Out) (e : Env) (h : Heap) : Out :=
  getK (e.get 1) fun w1 =>
  intK .i64 w1 fun n465 =>
  getK (e.get 2) fun w2 =>
  ptrK w2 fun p466 o466 =>
  getK (e.get 8) fun w8 =>
  sliceK w8 fun a467 l467 c467 =>
  getK (e.get 9) fun w9 =>
  intK .i64 w9 fun n468 =>
  kb n465 p466 o466 a467 l467 c467 n468 h

noncomputable def F11.J11 (call : CT) (lf ro : Nat) (n195 : Int) (p196 : Nat) (o196 : Nat) (s197 : ByteArray) (h198 : Heap) : Out :=
  bindO (conv Tryd.prog ro 9 22 (.string s197) h198) fun v202 h203 =>
  sliceK v202 fun a204 l204 c204 =>
  F11.L13 call lf ro lf n195 p196 o196 a204 l204 c204 0 h203

noncomputable def F11.PJ11 (kb : Int → Nat → Nat → ByteArray → Heap → Out) (e : Env) (h : Heap) : Out :=
  getK (e.get 1) fun w1 =>
  intK .i64 w1 fun n469 =>
  getK (e.get 2) fun w2 =>
  ptrK w2 fun p470 o470 =>
  getK (e.get 7) fun w7 =>
  strK w7 fun s471 =>
  kb n469 p470 o470 s471 h

noncomputable def F11.J8 (call : CT) (lf ro : Nat) (n117 : Int) (p118 : Nat) (o118 : Nat) (h119 : Heap) : Out :=
  bindN (call h119.next 31 [.int .i64 n117] h119) fun v153 h154 =>
  strK v153 fun s155 =>
  bindN (binO Tryd.prog .add 9 true (.string (⟨#[80]⟩ : ByteArray)) (.string s155) h154) fun v156 h157 =>
  strK v156 fun s158 =>
  bindN (binO Tryd.prog .add 9 true (.string s158) (.string (⟨#[10]⟩ : ByteArray)) h157) fun v159 h160 =>
  strK v159 fun s161 =>
  bindN (loadO Tryd.prog 3 (.pointer (some ⟨p118, o118 + 0, none⟩)) h160) fun v162 h163 =>
  intK .i64 v162 fun n164 =>
  bindN (call h163.next 31 [.int .i64 n164] h163) fun v165 h166 =>
  strK v165 fun s167 =>
  bindN (binO Tryd.prog .add 9 false (.string s161) (.string s167) h166) fun v168 h169 =>
  strK v168 fun s170 =>
  bindN (binO Tryd.prog .add 9 true (.string s170) (.string (⟨#[32]⟩ : ByteArray)) h169) fun v171 h172 =>
  strK v171 fun s173 =>
  bindN (loadO Tryd.prog 3 (.pointer (some ⟨p118, o118 + 1, none⟩)) h172) fun v174 h175 =>
  intK .i64 v174 fun n176 =>
  bindN (call ro 31 [.int .i64 n176] h175) fun v177 h178 =>
  strK v177 fun s179 =>
  bindO (binO Tryd.prog .add 9 false (.string s173) (.string s179) h178) fun v180 h181 =>
  strK v180 fun s182 =>
  bindO (binO Tryd.prog .add 9 true (.string s182) (.string (⟨#[10]⟩ : ByteArray)) h181) fun v183 h184 =>
  strK v183 fun s185 =>
  bindO (call ro 30 [.int .i64 n117] h184) fun v189 h190 =>
  boolK v189 fun b191 =>
  ifK b191 (bindO (binO Tryd.prog .add 9 true (.string s185) (.string (⟨#[50, 53, 53, 10]⟩ : ByteArray)) h190) fun v192 h193 =>
  strK v192 fun s194 =>
  F11.J11 call lf ro n117 p118 o118 s194 h193) (F11.J11 call lf ro n117 p118 o118 s185 h190)

noncomputable def F11.PJ8 (kb : Int → Nat → Nat → Heap → Out) (e : Env) (h : Heap) : Out :=
  getK (e.get 1) fun w1 =>
  intK .i64 w1 fun n472 =>
  getK (e.get 2) fun w2 =>
  ptrK w2 fun p473 o473 =>
  kb n472 p473 o473 h

noncomputable def F11.L4 (call : CT) (lf ro : Nat) : Nat → Int → Nat → Nat → Int → Heap → Out
  | 0, _, _, _, _, _ => .fail
  | n + 1, n27, p28, o28, n29, h30 =>
  letJ (fun (b37 : Bool) (h38 : Heap) =>
  (ifK b37 (F11.J6 call lf ro (F11.L4 call lf ro n) n27 p28 o28 n29 h38) (F11.J8 call lf ro n27 p28 o28 h38))) fun j39 =>
  bindO (loadO Tryd.prog 22 (.pointer (some ⟨p28, o28 + 2, none⟩)) h30) fun v474 h475 =>
  sliceK v474 fun a476 l476 c476 =>
  ifK (decide (n29 < (l476 : Int))) (bindO (call ro 30 [.int .i64 n27] h475) fun v477 h478 =>
  boolK v477 fun b479 =>
  j39 (!b479) h478) (j39 false h475)

noncomputable def F11.P4 (kb : Int → Nat → Nat → Int → Heap → Out) (e : Env) (h : Heap) : Out :=
  getK (e.get 1) fun w1 =>
  intK .i64 w1 fun n480 =>
  getK (e.get 2) fun w2 =>
  ptrK w2 fun p481 o481 =>
  getK (e.get 6) fun w6 =>
  intK .i64 w6 fun n482 =>
  kb n480 p481 o481 n482 h

noncomputable def F11.J3 (call : CT) (lf ro : Nat) (n24 : Int) (p25 : Nat) (o25 : Nat) (h26 : Heap) : Out :=
  F11.L4 call lf ro lf n24 p25 o25 0 h26

noncomputable def F11.PJ3 (kb : Int → Nat → Nat → Heap → Out) (e : Env) (h : Heap) : Out :=
  getK (e.get 1) fun w1 =>
  intK .i64 w1 fun n483 =>
  getK (e.get 2) fun w2 =>
  ptrK w2 fun p484 o484 =>
  kb n483 p484 o484 h

noncomputable def F11.t (call : CT) (lf ro : Nat) (x0_0 : Int) (x0_1 : Int) (ax0_2 : Option Addr) (lx0_2 : Nat) (cx0_2 : Nat) (x1 : Int) (h : Heap) : Out :=
  pushJ h 1 [.int .i64 x0_0, .int .i64 x0_1, .slice ax0_2 lx0_2 cx0_2] fun h2 =>
  letJ (fun (b21 : Bool) (h22 : Heap) =>
  (ifK b21 (Out.ok (.tuple #[.slice none 0 0, .int .i64 1]) h22) (F11.J3 call lf ro x1 h.next 0 h22))) fun j23 =>
  bindO (loadO Tryd.prog 24 (.pointer (some ⟨h.next, 0, none⟩)) h2) fun v485 h486 =>
  aggK v485 fun q487 =>
  consK q487 fun x488 q489 =>
  intK .i64 x488 fun n490 =>
  consK q489 fun x491 q492 =>
  intK .i64 x491 fun n493 =>
  consK q492 fun x494 q495 =>
  sliceK x494 fun a496 l496 c496 =>
  nilK q495 <|
  bindO (call ro 28 [.agg #[.int .i64 n490, .int .i64 n493, .slice a496 l496 c496]] h486) fun v497 h498 =>
  intK .i64 v497 fun n499 =>
  ifK (n499 != 0) (j23 true h498) (bindO (call ro 29 [.int .i64 x1] h498) fun v500 h501 =>
  boolK v500 fun b502 =>
  j23 (!b502) h501)

noncomputable def F11.Ht (call : CT) (lf ro : Nat) (i : Nat) (e : Env) (h : Heap) : Out := ifK (i == 13) (F11.P13 (F11.L13 call lf ro lf) e h) (ifK (i == 4) (F11.P4 (F11.L4 call lf ro lf) e h) (.fail))
noncomputable def F11.Ut (call : CT) (lf ro : Nat) (i : Nat) : Option (Env → Heap → Out) := ifJ (i == 11) (some (F11.PJ11 (F11.J11 call lf ro))) (ifJ (i == 8) (some (F11.PJ8 (F11.J8 call lf ro))) (ifJ (i == 3) (some (F11.PJ3 (F11.J3 call lf ro))) (none)))

noncomputable def F11.H13 (call : CT) (lf ro : Nat) (kb13 : Int → Nat → Nat → (Option Addr) → Nat → Nat → Int → Heap → Out) (i : Nat) (e : Env) (h : Heap) : Out := ifK (i == 13) (F11.P13 (F11.L13 call lf ro lf) e h) (ifK (i == 4) (F11.P4 (F11.L4 call lf ro lf) e h) (.fail))
noncomputable def F11.U13 (call : CT) (lf ro : Nat) (kb13 : Int → Nat → Nat → (Option Addr) → Nat → Nat → Int → Heap → Out) (i : Nat) : Option (Env → Heap → Out) := ifJ (i == 15) (some (F11.PJ15 (F11.J15 call lf ro kb13))) (ifJ (i == 11) (some (F11.PJ11 (F11.J11 call lf ro))) (ifJ (i == 8) (some (F11.PJ8 (F11.J8 call lf ro))) (ifJ (i == 3) (some (F11.PJ3 (F11.J3 call lf ro))) (none))))

noncomputable def F11.H4 (call : CT) (lf ro : Nat) (kb4 : Int → Nat → Nat → Int → Heap → Out) (i : Nat) (e : Env) (h : Heap) : Out := ifK (i == 13) (F11.P13 (F11.L13 call lf ro lf) e h) (ifK (i == 4) (F11.P4 (F11.L4 call lf ro lf) e h) (.fail))
noncomputable def F11.U4 (call : CT) (lf ro : Nat) (kb4 : Int → Nat → Nat → Int → Heap → Out) (i : Nat) : Option (Env → Heap → Out) := ifJ (i == 11) (some (F11.PJ11 (F11.J11 call lf ro))) (ifJ (i == 8) (some (F11.PJ8 (F11.J8 call lf ro))) (ifJ (i == 6) (some (F11.PJ6 (F11.J6 call lf ro kb4))) (ifJ (i == 3) (some (F11.PJ3 (F11.J3 call lf ro))) (none))))

noncomputable def F11.C13 (call : CT) (lf ro : Nat) : COut → Out := blockK 2 (seqH Tryd.prog call ro (F11.Ht call lf ro) (F11.Ut call lf ro) (sub (codeOf Tryd.f11) [true, true, true, true, true, true, true]) (endK Tryd.prog Tryd.f11))

noncomputable def F11.K13 (call : CT) (lf ro : Nat) : COut → Out := blockK 2 (seqK Tryd.prog call lf ro (sub (codeOf Tryd.f11) [true, true, true, true, true, true, true]) (endK Tryd.prog Tryd.f11))

noncomputable def F11.C4 (call : CT) (lf ro : Nat) : COut → Out := blockK 0 (seqH Tryd.prog call ro (F11.Ht call lf ro) (F11.Ut call lf ro) (sub (codeOf Tryd.f11) [true, true, true]) (endK Tryd.prog Tryd.f11))

noncomputable def F11.K4 (call : CT) (lf ro : Nat) : COut → Out := blockK 0 (seqK Tryd.prog call lf ro (sub (codeOf Tryd.f11) [true, true, true]) (endK Tryd.prog Tryd.f11))

noncomputable def F11.CJ11 (call : CT) (lf ro : Nat) : COut → Out := endK Tryd.prog Tryd.f11

noncomputable def F11.KJ11 (call : CT) (lf ro : Nat) : COut → Out := endK Tryd.prog Tryd.f11

noncomputable def F11.CJ8 (call : CT) (lf ro : Nat) : COut → Out := endK Tryd.prog Tryd.f11

noncomputable def F11.KJ8 (call : CT) (lf ro : Nat) : COut → Out := endK Tryd.prog Tryd.f11

noncomputable def F11.CJ3 (call : CT) (lf ro : Nat) : COut → Out := endK Tryd.prog Tryd.f11

noncomputable def F11.KJ3 (call : CT) (lf ro : Nat) : COut → Out := endK Tryd.prog Tryd.f11

noncomputable def F11.CJ6 (call : CT) (lf ro : Nat) (kb4 : Int → Nat → Nat → Int → Heap → Out) : COut → Out := outK (F11.P4 kb4) (fun i e h => F11.C4 call lf ro (.exit i e h)) (fun e h => F11.C4 call lf ro (.ret e h))

noncomputable def F11.KJ6 (call : CT) (lf ro : Nat) (kb4 : Int → Nat → Nat → Int → Heap → Out) : COut → Out := outK (F11.P4 kb4) (fun i e h => F11.C4 call lf ro (.exit i e h)) (fun e h => F11.C4 call lf ro (.ret e h))

noncomputable def F11.CJ15 (call : CT) (lf ro : Nat) (kb13 : Int → Nat → Nat → (Option Addr) → Nat → Nat → Int → Heap → Out) : COut → Out := outK (F11.P13 kb13) (fun i e h => F11.C13 call lf ro (.exit i e h)) (fun e h => F11.C13 call lf ro (.ret e h))

noncomputable def F11.KJ15 (call : CT) (lf ro : Nat) (kb13 : Int → Nat → Nat → (Option Addr) → Nat → Nat → Int → Heap → Out) : COut → Out := outK (F11.P13 kb13) (fun i e h => F11.C13 call lf ro (.exit i e h)) (fun e h => F11.C13 call lf ro (.ret e h))

theorem F11.RJ6 (call : CT) (lf ro : Nat) (kb4 : Int → Nat → Nat → Int → Heap → Out) (f : Nat → Option Value) (n40 : Int) (p41 : Nat) (o41 : Nat) (n42 : Int) (h43 : Heap) :
    execH Tryd.prog call ro (F11.H4 call lf ro kb4) (F11.U4 call lf ro kb4) (sub (codeOf Tryd.f11) [true, true, false, true, false, false, true]) (EF 102 (updF (updF (updF f 1 (some (.int .i64 n40))) 2 (some (.pointer (some ⟨p41, o41, none⟩)))) 6 (some (.int .i64 n42)))) h43 (F11.CJ6 call lf ro kb4) = F11.J6 call lf ro kb4 n40 p41 o41 n42 h43 := by kernel_rfl

theorem F11.CKJ6 (call : CT) (lf ro : Nat) (kb4 : Int → Nat → Nat → Int → Heap → Out) : KLe 102 (F11.CJ6 call lf ro kb4) (F11.KJ6 call lf ro kb4) :=
  (KLe.refl _)

theorem F11.BJ6 (call : CT) (lf ro : Nat) (kb4 : Int → Nat → Nat → Int → Heap → Out) : ∀ e h, Shaped 102 e → LeO (F11.PJ6 (F11.J6 call lf ro kb4) e h) (execK Tryd.prog call lf ro (sub (codeOf Tryd.f11) [true, true, false, true, false, false, true]) e h (F11.KJ6 call lf ro kb4)) := by
    rintro e h ⟨f, rfl⟩
    unfold F11.PJ6
    refine getK_le fun w1 g1 => ?_
    rw [EF_get (by decide)] at g1
    refine intK_le fun n114 z503 => ?_
    subst z503
    refine getK_le fun w2 g2 => ?_
    rw [EF_get (by decide)] at g2
    refine ptrK_le fun p115 o115 z504 => ?_
    subst z504
    refine getK_le fun w6 g6 => ?_
    rw [EF_get (by decide)] at g6
    refine intK_le fun n116 z505 => ?_
    subst z505
    have hr := F11.RJ6 call lf ro kb4 f n114 p115 o115 n116 h
    rw [updF_same g1, updF_same g2, updF_same g6] at hr
    exact cut_le (H := (F11.H4 call lf ro kb4)) (J := (F11.U4 call lf ro kb4)) (F11.CKJ6 call lf ro kb4) (hd_free rfl) hr

theorem F11.RJ15 (call : CT) (lf ro : Nat) (kb13 : Int → Nat → Nat → (Option Addr) → Nat → Nat → Int → Heap → Out) (f : Nat → Option Value) (n216 : Int) (p217 : Nat) (o217 : Nat) (a218 : Option Addr) (l218 : Nat) (c218 : Nat) (n219 : Int) (h220 : Heap) :
    execH Tryd.prog call ro (F11.H13 call lf ro kb13) (F11.U13 call lf ro kb13) (sub (codeOf Tryd.f11) [true, true, true, true, true, true, false, true, false, false, true]) (EF 102 (updF (updF (updF (updF f 1 (some (.int .i64 n216))) 2 (some (.pointer (some ⟨p217, o217, none⟩)))) 8 (some (.slice a218 l218 c218))) 9 (some (.int .i64 n219)))) h220 (F11.CJ15 call lf ro kb13) = F11.J15 call lf ro kb13 n216 p217 o217 a218 l218 c218 n219 h220 := by kernel_rfl

theorem F11.CKJ15 (call : CT) (lf ro : Nat) (kb13 : Int → Nat → Nat → (Option Addr) → Nat → Nat → Int → Heap → Out) : KLe 102 (F11.CJ15 call lf ro kb13) (F11.KJ15 call lf ro kb13) :=
  (KLe.refl _)

theorem F11.BJ15 (call : CT) (lf ro : Nat) (kb13 : Int → Nat → Nat → (Option Addr) → Nat → Nat → Int → Heap → Out) : ∀ e h, Shaped 102 e → LeO (F11.PJ15 (F11.J15 call lf ro kb13) e h) (execK Tryd.prog call lf ro (sub (codeOf Tryd.f11) [true, true, true, true, true, true, false, true, false, false, true]) e h (F11.KJ15 call lf ro kb13)) := by
    rintro e h ⟨f, rfl⟩
    unfold F11.PJ15
    refine getK_le fun w1 g1 => ?_
    rw [EF_get (by decide)] at g1
    refine intK_le fun n455 z509 => ?_
    subst z509
    refine getK_le fun w2 g2 => ?_
    rw [EF_get (by decide)] at g2
    refine ptrK_le fun p456 o456 z510 => ?_
    subst z510
    refine getK_le fun w8 g8 => ?_
    rw [EF_get (by decide)] at g8
    refine sliceK_le fun a457 l457 c457 z511 => ?_
    subst z511
    refine getK_le fun w9 g9 => ?_
    rw [EF_get (by decide)] at g9
    refine intK_le fun n458 z512 => ?_
    subst z512
    have hr := F11.RJ15 call lf ro kb13 f n455 p456 o456 a457 l457 c457 n458 h
    rw [updF_same g1, updF_same g2, updF_same g8, updF_same g9] at hr
    exact cut_le (H := (F11.H13 call lf ro kb13)) (J := (F11.U13 call lf ro kb13)) (F11.CKJ15 call lf ro kb13) (hd_free rfl) hr

theorem F11.R13 (call : CT) (lf ro : Nat) (n : Nat) (f : Nat → Option Value) (n205 : Int) (p206 : Nat) (o206 : Nat) (a207 : Option Addr) (l207 : Nat) (c207 : Nat) (n208 : Int) (h209 : Heap) :
    execH Tryd.prog call ro (F11.H13 call lf ro (F11.L13 call lf ro n)) (F11.U13 call lf ro (F11.L13 call lf ro n)) (sub (codeOf Tryd.f11) [true, true, true, true, true, true, false, true, false, false]) (EF 102 (updF (updF (updF (updF f 1 (some (.int .i64 n205))) 2 (some (.pointer (some ⟨p206, o206, none⟩)))) 8 (some (.slice a207 l207 c207))) 9 (some (.int .i64 n208)))) h209 (outK (F11.P13 (F11.L13 call lf ro n)) (fun i e h => F11.C13 call lf ro (.exit i e h)) (fun e h => F11.C13 call lf ro (.ret e h))) = F11.L13 call lf ro (n + 1) n205 p206 o206 a207 l207 c207 n208 h209 := by kernel_rfl

theorem F11.CK13 (call : CT) (lf ro : Nat) : KLe 102 (F11.C13 call lf ro) (F11.K13 call lf ro) :=
  (KLe.block (KLe.seq (H := (F11.Ht call lf ro)) (J := (F11.Ut call lf ro)) (KLe.refl _) (hd_free rfl)))

theorem F11.B13 (call : CT) (lf ro : Nat) : ∀ n e h, Shaped 102 e → LeO (F11.P13 (F11.L13 call lf ro n) e h) (loopK (execK Tryd.prog call lf ro (sub (codeOf Tryd.f11) [true, true, true, true, true, true, false, true, false, false])) n e h (F11.K13 call lf ro)) := by
  refine loop_le (fun e h k k' hs hk => execK_mono _ e h k k' hs hk) (kb := fun n => F11.P13 (F11.L13 call lf ro n)) (kx := fun i e h => F11.C13 call lf ro (.exit i e h)) (kr := fun e h => F11.C13 call lf ro (.ret e h)) ?_ ?_ (fun i e h hs => (F11.CK13 call lf ro).exit i e h hs) (fun e h hs => (F11.CK13 call lf ro).ret e h hs)
  · rintro e h ⟨f, rfl⟩
    unfold F11.P13
    refine getK_le fun w1 g1 => ?_
    rw [EF_get (by decide)] at g1
    refine intK_le fun n465 z517 => ?_
    subst z517
    refine getK_le fun w2 g2 => ?_
    rw [EF_get (by decide)] at g2
    refine ptrK_le fun p466 o466 z518 => ?_
    subst z518
    refine getK_le fun w8 g8 => ?_
    rw [EF_get (by decide)] at g8
    refine sliceK_le fun a467 l467 c467 z519 => ?_
    subst z519
    refine getK_le fun w9 g9 => ?_
    rw [EF_get (by decide)] at g9
    refine intK_le fun n468 z520 => ?_
    subst z520
    exact LeO.refl _
  · rintro n e h ⟨f, rfl⟩
    unfold F11.P13
    refine getK_le fun w1 g1 => ?_
    rw [EF_get (by decide)] at g1
    refine intK_le fun n465 z521 => ?_
    subst z521
    refine getK_le fun w2 g2 => ?_
    rw [EF_get (by decide)] at g2
    refine ptrK_le fun p466 o466 z522 => ?_
    subst z522
    refine getK_le fun w8 g8 => ?_
    rw [EF_get (by decide)] at g8
    refine sliceK_le fun a467 l467 c467 z523 => ?_
    subst z523
    refine getK_le fun w9 g9 => ?_
    rw [EF_get (by decide)] at g9
    refine intK_le fun n468 z524 => ?_
    subst z524
    have hr := F11.R13 call lf ro n f n465 p466 o466 a467 l467 c467 n468 h
    rw [updF_same g1, updF_same g2, updF_same g8, updF_same g9] at hr
    exact round_le (H := (F11.H13 call lf ro (F11.L13 call lf ro n))) (J := (F11.U13 call lf ro (F11.L13 call lf ro n))) ⟨(hd_free rfl), (fun e h hs => F11.BJ15 call lf ro (F11.L13 call lf ro n) e h hs)⟩ hr

theorem F11.RJ11 (call : CT) (lf ro : Nat) (f : Nat → Option Value) (n195 : Int) (p196 : Nat) (o196 : Nat) (s197 : ByteArray) (h198 : Heap) :
    execH Tryd.prog call ro (F11.Ht call lf ro) (F11.Ut call lf ro) (sub (codeOf Tryd.f11) [true, true, true, true, true]) (EF 102 (updF (updF (updF f 1 (some (.int .i64 n195))) 2 (some (.pointer (some ⟨p196, o196, none⟩)))) 7 (some (.string s197)))) h198 (F11.CJ11 call lf ro) = F11.J11 call lf ro n195 p196 o196 s197 h198 := by kernel_rfl

theorem F11.CKJ11 (call : CT) (lf ro : Nat) : KLe 102 (F11.CJ11 call lf ro) (F11.KJ11 call lf ro) :=
  (KLe.refl _)

theorem F11.BJ11 (call : CT) (lf ro : Nat) : ∀ e h, Shaped 102 e → LeO (F11.PJ11 (F11.J11 call lf ro) e h) (execK Tryd.prog call lf ro (sub (codeOf Tryd.f11) [true, true, true, true, true]) e h (F11.KJ11 call lf ro)) := by
    rintro e h ⟨f, rfl⟩
    unfold F11.PJ11
    refine getK_le fun w1 g1 => ?_
    rw [EF_get (by decide)] at g1
    refine intK_le fun n469 z525 => ?_
    subst z525
    refine getK_le fun w2 g2 => ?_
    rw [EF_get (by decide)] at g2
    refine ptrK_le fun p470 o470 z526 => ?_
    subst z526
    refine getK_le fun w7 g7 => ?_
    rw [EF_get (by decide)] at g7
    refine strK_le fun s471 z527 => ?_
    subst z527
    have hr := F11.RJ11 call lf ro f n469 p470 o470 s471 h
    rw [updF_same g1, updF_same g2, updF_same g7] at hr
    exact cut_le (H := (F11.Ht call lf ro)) (J := (F11.Ut call lf ro)) (F11.CKJ11 call lf ro) ⟨(hd_free rfl), ⟨⟨(hd_free rfl), (fun e h hs => F11.B13 call lf ro  lf e h hs)⟩, (hd_free rfl)⟩⟩ hr

theorem F11.RJ8 (call : CT) (lf ro : Nat) (f : Nat → Option Value) (n117 : Int) (p118 : Nat) (o118 : Nat) (h119 : Heap) :
    execH Tryd.prog call ro (F11.Ht call lf ro) (F11.Ut call lf ro) (sub (codeOf Tryd.f11) [true, true, true]) (EF 102 (updF (updF f 1 (some (.int .i64 n117))) 2 (some (.pointer (some ⟨p118, o118, none⟩))))) h119 (F11.CJ8 call lf ro) = F11.J8 call lf ro n117 p118 o118 h119 := by kernel_rfl

theorem F11.CKJ8 (call : CT) (lf ro : Nat) : KLe 102 (F11.CJ8 call lf ro) (F11.KJ8 call lf ro) :=
  (KLe.refl _)

theorem F11.BJ8 (call : CT) (lf ro : Nat) : ∀ e h, Shaped 102 e → LeO (F11.PJ8 (F11.J8 call lf ro) e h) (execK Tryd.prog call lf ro (sub (codeOf Tryd.f11) [true, true, true]) e h (F11.KJ8 call lf ro)) := by
    rintro e h ⟨f, rfl⟩
    unfold F11.PJ8
    refine getK_le fun w1 g1 => ?_
    rw [EF_get (by decide)] at g1
    refine intK_le fun n472 z531 => ?_
    subst z531
    refine getK_le fun w2 g2 => ?_
    rw [EF_get (by decide)] at g2
    refine ptrK_le fun p473 o473 z532 => ?_
    subst z532
    have hr := F11.RJ8 call lf ro f n472 p473 o473 h
    rw [updF_same g1, updF_same g2] at hr
    exact cut_le (H := (F11.Ht call lf ro)) (J := (F11.Ut call lf ro)) (F11.CKJ8 call lf ro) ⟨(hd_free rfl), ⟨(hd_free rfl), (fun e h hs => F11.BJ11 call lf ro  e h hs)⟩⟩ hr

theorem F11.R4 (call : CT) (lf ro : Nat) (n : Nat) (f : Nat → Option Value) (n27 : Int) (p28 : Nat) (o28 : Nat) (n29 : Int) (h30 : Heap) :
    execH Tryd.prog call ro (F11.H4 call lf ro (F11.L4 call lf ro n)) (F11.U4 call lf ro (F11.L4 call lf ro n)) (sub (codeOf Tryd.f11) [true, true, false, true, false, false]) (EF 102 (updF (updF (updF f 1 (some (.int .i64 n27))) 2 (some (.pointer (some ⟨p28, o28, none⟩)))) 6 (some (.int .i64 n29)))) h30 (outK (F11.P4 (F11.L4 call lf ro n)) (fun i e h => F11.C4 call lf ro (.exit i e h)) (fun e h => F11.C4 call lf ro (.ret e h))) = F11.L4 call lf ro (n + 1) n27 p28 o28 n29 h30 := by kernel_rfl

theorem F11.CK4 (call : CT) (lf ro : Nat) : KLe 102 (F11.C4 call lf ro) (F11.K4 call lf ro) :=
  (KLe.block (KLe.seq (H := (F11.Ht call lf ro)) (J := (F11.Ut call lf ro)) (KLe.refl _) (fun e h hs => F11.BJ8 call lf ro  e h hs)))

theorem F11.B4 (call : CT) (lf ro : Nat) : ∀ n e h, Shaped 102 e → LeO (F11.P4 (F11.L4 call lf ro n) e h) (loopK (execK Tryd.prog call lf ro (sub (codeOf Tryd.f11) [true, true, false, true, false, false])) n e h (F11.K4 call lf ro)) := by
  refine loop_le (fun e h k k' hs hk => execK_mono _ e h k k' hs hk) (kb := fun n => F11.P4 (F11.L4 call lf ro n)) (kx := fun i e h => F11.C4 call lf ro (.exit i e h)) (kr := fun e h => F11.C4 call lf ro (.ret e h)) ?_ ?_ (fun i e h hs => (F11.CK4 call lf ro).exit i e h hs) (fun e h hs => (F11.CK4 call lf ro).ret e h hs)
  · rintro e h ⟨f, rfl⟩
    unfold F11.P4
    refine getK_le fun w1 g1 => ?_
    rw [EF_get (by decide)] at g1
    refine intK_le fun n480 z535 => ?_
    subst z535
    refine getK_le fun w2 g2 => ?_
    rw [EF_get (by decide)] at g2
    refine ptrK_le fun p481 o481 z536 => ?_
    subst z536
    refine getK_le fun w6 g6 => ?_
    rw [EF_get (by decide)] at g6
    refine intK_le fun n482 z537 => ?_
    subst z537
    exact LeO.refl _
  · rintro n e h ⟨f, rfl⟩
    unfold F11.P4
    refine getK_le fun w1 g1 => ?_
    rw [EF_get (by decide)] at g1
    refine intK_le fun n480 z538 => ?_
    subst z538
    refine getK_le fun w2 g2 => ?_
    rw [EF_get (by decide)] at g2
    refine ptrK_le fun p481 o481 z539 => ?_
    subst z539
    refine getK_le fun w6 g6 => ?_
    rw [EF_get (by decide)] at g6
    refine intK_le fun n482 z540 => ?_
    subst z540
    have hr := F11.R4 call lf ro n f n480 p481 o481 n482 h
    rw [updF_same g1, updF_same g2, updF_same g6] at hr
    exact round_le (H := (F11.H4 call lf ro (F11.L4 call lf ro n))) (J := (F11.U4 call lf ro (F11.L4 call lf ro n))) ⟨(hd_free rfl), (fun e h hs => F11.BJ6 call lf ro (F11.L4 call lf ro n) e h hs)⟩ hr

theorem F11.RJ3 (call : CT) (lf ro : Nat) (f : Nat → Option Value) (n24 : Int) (p25 : Nat) (o25 : Nat) (h26 : Heap) :
    execH Tryd.prog call ro (F11.Ht call lf ro) (F11.Ut call lf ro) (sub (codeOf Tryd.f11) [true, true]) (EF 102 (updF (updF f 1 (some (.int .i64 n24))) 2 (some (.pointer (some ⟨p25, o25, none⟩))))) h26 (F11.CJ3 call lf ro) = F11.J3 call lf ro n24 p25 o25 h26 := by kernel_rfl

theorem F11.CKJ3 (call : CT) (lf ro : Nat) : KLe 102 (F11.CJ3 call lf ro) (F11.KJ3 call lf ro) :=
  (KLe.refl _)

theorem F11.BJ3 (call : CT) (lf ro : Nat) : ∀ e h, Shaped 102 e → LeO (F11.PJ3 (F11.J3 call lf ro) e h) (execK Tryd.prog call lf ro (sub (codeOf Tryd.f11) [true, true]) e h (F11.KJ3 call lf ro)) := by
    rintro e h ⟨f, rfl⟩
    unfold F11.PJ3
    refine getK_le fun w1 g1 => ?_
    rw [EF_get (by decide)] at g1
    refine intK_le fun n483 z541 => ?_
    subst z541
    refine getK_le fun w2 g2 => ?_
    rw [EF_get (by decide)] at g2
    refine ptrK_le fun p484 o484 z542 => ?_
    subst z542
    have hr := F11.RJ3 call lf ro f n483 p484 o484 h
    rw [updF_same g1, updF_same g2] at hr
    exact cut_le (H := (F11.Ht call lf ro)) (J := (F11.Ut call lf ro)) (F11.CKJ3 call lf ro) ⟨⟨(hd_free rfl), (fun e h hs => F11.B4 call lf ro  lf e h hs)⟩, (fun e h hs => F11.BJ8 call lf ro  e h hs)⟩ hr

theorem F11.le (call : CT) (lf ro : Nat) (x0_0 : Int) (x0_1 : Int) (ax0_2 : Option Addr) (lx0_2 : Nat) (cx0_2 : Nat) (x1 : Int) (h : Heap) : LeO (F11.t call lf ro x0_0 x0_1 ax0_2 lx0_2 cx0_2 x1 h) (bodyK Tryd.prog call lf ro Tryd.f11 [.agg #[.int .i64 x0_0, .int .i64 x0_1, .slice ax0_2 lx0_2 cx0_2], .int .i64 x1] h) :=
  body_le (c := codeOf Tryd.f11) (H := F11.Ht call lf ro) (J := F11.Ut call lf ro) rfl (Nat.le_of_ble_eq_true rfl) ⟨(hd_free rfl), ⟨(hd_free rfl), (fun e h hs => F11.BJ3 call lf ro  e h hs)⟩⟩ (by kernel_rfl)

/-! ### barscan/barscanref32.Same: function 15 -/

noncomputable def F15.J6 (call : CT) (lf ro : Nat) (kb4 : Nat → Nat → Nat → Nat → Int → Heap → Out) (p39 : Nat) (o39 : Nat) (p40 : Nat) (o40 : Nat) (n41 : Int) (h42 : Heap) : Out :=
  bindN (loadO Tryd.prog 22 (.pointer (some ⟨p39, o39 + 2, none⟩)) h42) fun v155 h156 =>
  sliceK v155 fun a157 l157 c157 =>
  bindN (idxO Tryd.prog 22 (.slice a157 l157 c157) (.int .i64 n41) h156) fun v158 h159 =>
  bindN (loadO Tryd.prog 5 v158 h159) fun v160 h161 =>
  intK .u8 v160 fun n162 =>
  bindN (loadO Tryd.prog 22 (.pointer (some ⟨p40, o40 + 2, none⟩)) h161) fun v163 h164 =>
  sliceK v163 fun a165 l165 c165 =>
  bindN (idxO Tryd.prog 22 (.slice a165 l165 c165) (.int .i64 n41) h164) fun v166 h167 =>
  bindN (loadO Tryd.prog 5 v166 h167) fun v168 h169 =>
  intK .u8 v168 fun n170 =>
  ifK (n162 != n170) (Out.ok (.bool false) h169) (kb4 p39 o39 p40 o40 (IntKind.i64.wrap (n41 + 1)) h169)

noncomputable def F15.PJ6 (kb : Nat → Nat → Nat → Nat → Int → Heap → Out) (e : Env) (h : Heap) : Out :=
  getK (e.get 2) fun w2 =>
  ptrK w2 fun p171 o171 =>
  getK (e.get 3) fun w3 =>
  ptrK w3 fun p172 o172 =>
  getK (e.get 5) fun w5 =>
  intK .i64 w5 fun n173 =>
  kb p171 o171 p172 o172 n173 h

noncomputable def F15.L4 (call : CT) (lf ro : Nat) : Nat → Nat → Nat → Nat → Nat → Int → Heap → Out
  | 0, _, _, _, _, _, _ => .fail
  | n + 1, p29, o29, p30, o30, n31, h32 =>
  bindO (loadO Tryd.prog 22 (.pointer (some ⟨p29, o29 + 2, none⟩)) h32) fun v177 h178 =>
  sliceK v177 fun a179 l179 c179 =>
  ifK (decide (n31 < (l179 : Int))) (F15.J6 call lf ro (F15.L4 call lf ro n) p29 o29 p30 o30 n31 h178) (Out.ok (.bool true) h178)

noncomputable def F15.P4 (kb : Nat → Nat → Nat → Nat → Int → Heap → Out) (e : Env) (h : Heap) : Out :=
  getK (e.get 2) fun w2 =>
  ptrK w2 fun p180 o180 =>
  getK (e.get 3) fun w3 =>
  ptrK w3 fun p181 o181 =>
  getK (e.get 5) fun w5 =>
  intK .i64 w5 fun n182 =>
  kb p180 o180 p181 o181 n182 h

noncomputable def F15.J3 (call : CT) (lf ro : Nat) (p26 : Nat) (o26 : Nat) (p27 : Nat) (o27 : Nat) (h28 : Heap) : Out :=
  F15.L4 call lf ro lf p26 o26 p27 o27 0 h28

noncomputable def F15.PJ3 (kb : Nat → Nat → Nat → Nat → Heap → Out) (e : Env) (h : Heap) : Out :=
  getK (e.get 2) fun w2 =>
  ptrK w2 fun p183 o183 =>
  getK (e.get 3) fun w3 =>
  ptrK w3 fun p184 o184 =>
  kb p183 o183 p184 o184 h

noncomputable def F15.t (call : CT) (lf ro : Nat) (x0_0 : Int) (x0_1 : Int) (ax0_2 : Option Addr) (lx0_2 : Nat) (cx0_2 : Nat) (x1_0 : Int) (x1_1 : Int) (ax1_2 : Option Addr) (lx1_2 : Nat) (cx1_2 : Nat) (h : Heap) : Out :=
  pushJ h 1 [.int .i64 x0_0, .int .i64 x0_1, .slice ax0_2 lx0_2 cx0_2] fun h3 =>
  pushJ h3 1 [.int .i64 x1_0, .int .i64 x1_1, .slice ax1_2 lx1_2 cx1_2] fun h4 =>
  letJ (fun (b23 : Bool) (h24 : Heap) =>
  (ifK b23 (Out.ok (.bool false) h24) (F15.J3 call lf ro h.next 0 h3.next 0 h24))) fun j25 =>
  bindO (loadO Tryd.prog 3 (.pointer (some ⟨h.next, 0, none⟩)) h4) fun v185 h186 =>
  intK .i64 v185 fun n187 =>
  bindO (loadO Tryd.prog 3 (.pointer (some ⟨h3.next, 0, none⟩)) h186) fun v188 h189 =>
  intK .i64 v188 fun n190 =>
  ifK (n187 != n190) (j25 true h189) (bindO (loadO Tryd.prog 3 (.pointer (some ⟨h.next, 1, none⟩)) h189) fun v191 h192 =>
  intK .i64 v191 fun n193 =>
  bindO (loadO Tryd.prog 3 (.pointer (some ⟨h3.next, 1, none⟩)) h192) fun v194 h195 =>
  intK .i64 v194 fun n196 =>
  ifK (n193 != n196) (j25 true h195) (bindO (loadO Tryd.prog 22 (.pointer (some ⟨h.next, 2, none⟩)) h195) fun v197 h198 =>
  sliceK v197 fun a199 l199 c199 =>
  bindO (loadO Tryd.prog 22 (.pointer (some ⟨h3.next, 2, none⟩)) h198) fun v200 h201 =>
  sliceK v200 fun a202 l202 c202 =>
  j25 ((l199 : Int) != (l202 : Int)) h201))

noncomputable def F15.Ht (call : CT) (lf ro : Nat) (i : Nat) (e : Env) (h : Heap) : Out := ifK (i == 4) (F15.P4 (F15.L4 call lf ro lf) e h) (.fail)
noncomputable def F15.Ut (call : CT) (lf ro : Nat) (i : Nat) : Option (Env → Heap → Out) := ifJ (i == 3) (some (F15.PJ3 (F15.J3 call lf ro))) (none)

noncomputable def F15.H4 (call : CT) (lf ro : Nat) (kb4 : Nat → Nat → Nat → Nat → Int → Heap → Out) (i : Nat) (e : Env) (h : Heap) : Out := ifK (i == 4) (F15.P4 (F15.L4 call lf ro lf) e h) (.fail)
noncomputable def F15.U4 (call : CT) (lf ro : Nat) (kb4 : Nat → Nat → Nat → Nat → Int → Heap → Out) (i : Nat) : Option (Env → Heap → Out) := ifJ (i == 6) (some (F15.PJ6 (F15.J6 call lf ro kb4))) (ifJ (i == 3) (some (F15.PJ3 (F15.J3 call lf ro))) (none))

noncomputable def F15.C4 (call : CT) (lf ro : Nat) : COut → Out := blockK 0 (seqH Tryd.prog call ro (F15.Ht call lf ro) (F15.Ut call lf ro) (sub (codeOf Tryd.f15) [true, true, true]) (endK Tryd.prog Tryd.f15))

noncomputable def F15.K4 (call : CT) (lf ro : Nat) : COut → Out := blockK 0 (seqK Tryd.prog call lf ro (sub (codeOf Tryd.f15) [true, true, true]) (endK Tryd.prog Tryd.f15))

noncomputable def F15.CJ3 (call : CT) (lf ro : Nat) : COut → Out := endK Tryd.prog Tryd.f15

noncomputable def F15.KJ3 (call : CT) (lf ro : Nat) : COut → Out := endK Tryd.prog Tryd.f15

noncomputable def F15.CJ6 (call : CT) (lf ro : Nat) (kb4 : Nat → Nat → Nat → Nat → Int → Heap → Out) : COut → Out := outK (F15.P4 kb4) (fun i e h => F15.C4 call lf ro (.exit i e h)) (fun e h => F15.C4 call lf ro (.ret e h))

noncomputable def F15.KJ6 (call : CT) (lf ro : Nat) (kb4 : Nat → Nat → Nat → Nat → Int → Heap → Out) : COut → Out := outK (F15.P4 kb4) (fun i e h => F15.C4 call lf ro (.exit i e h)) (fun e h => F15.C4 call lf ro (.ret e h))

theorem F15.RJ6 (call : CT) (lf ro : Nat) (kb4 : Nat → Nat → Nat → Nat → Int → Heap → Out) (f : Nat → Option Value) (p39 : Nat) (o39 : Nat) (p40 : Nat) (o40 : Nat) (n41 : Int) (h42 : Heap) :
    execH Tryd.prog call ro (F15.H4 call lf ro kb4) (F15.U4 call lf ro kb4) (sub (codeOf Tryd.f15) [true, true, false, true, false, false, true]) (EF 45 (updF (updF (updF f 2 (some (.pointer (some ⟨p39, o39, none⟩)))) 3 (some (.pointer (some ⟨p40, o40, none⟩)))) 5 (some (.int .i64 n41)))) h42 (F15.CJ6 call lf ro kb4) = F15.J6 call lf ro kb4 p39 o39 p40 o40 n41 h42 := by kernel_rfl

theorem F15.CKJ6 (call : CT) (lf ro : Nat) (kb4 : Nat → Nat → Nat → Nat → Int → Heap → Out) : KLe 45 (F15.CJ6 call lf ro kb4) (F15.KJ6 call lf ro kb4) :=
  (KLe.refl _)

theorem F15.BJ6 (call : CT) (lf ro : Nat) (kb4 : Nat → Nat → Nat → Nat → Int → Heap → Out) : ∀ e h, Shaped 45 e → LeO (F15.PJ6 (F15.J6 call lf ro kb4) e h) (execK Tryd.prog call lf ro (sub (codeOf Tryd.f15) [true, true, false, true, false, false, true]) e h (F15.KJ6 call lf ro kb4)) := by
    rintro e h ⟨f, rfl⟩
    unfold F15.PJ6
    refine getK_le fun w2 g2 => ?_
    rw [EF_get (by decide)] at g2
    refine ptrK_le fun p171 o171 z203 => ?_
    subst z203
    refine getK_le fun w3 g3 => ?_
    rw [EF_get (by decide)] at g3
    refine ptrK_le fun p172 o172 z204 => ?_
    subst z204
    refine getK_le fun w5 g5 => ?_
    rw [EF_get (by decide)] at g5
    refine intK_le fun n173 z205 => ?_
    subst z205
    have hr := F15.RJ6 call lf ro kb4 f p171 o171 p172 o172 n173 h
    rw [updF_same g2, updF_same g3, updF_same g5] at hr
    exact cut_le (H := (F15.H4 call lf ro kb4)) (J := (F15.U4 call lf ro kb4)) (F15.CKJ6 call lf ro kb4) (hd_free rfl) hr

theorem F15.R4 (call : CT) (lf ro : Nat) (n : Nat) (f : Nat → Option Value) (p29 : Nat) (o29 : Nat) (p30 : Nat) (o30 : Nat) (n31 : Int) (h32 : Heap) :
    execH Tryd.prog call ro (F15.H4 call lf ro (F15.L4 call lf ro n)) (F15.U4 call lf ro (F15.L4 call lf ro n)) (sub (codeOf Tryd.f15) [true, true, false, true, false, false]) (EF 45 (updF (updF (updF f 2 (some (.pointer (some ⟨p29, o29, none⟩)))) 3 (some (.pointer (some ⟨p30, o30, none⟩)))) 5 (some (.int .i64 n31)))) h32 (outK (F15.P4 (F15.L4 call lf ro n)) (fun i e h => F15.C4 call lf ro (.exit i e h)) (fun e h => F15.C4 call lf ro (.ret e h))) = F15.L4 call lf ro (n + 1) p29 o29 p30 o30 n31 h32 := by kernel_rfl

theorem F15.CK4 (call : CT) (lf ro : Nat) : KLe 45 (F15.C4 call lf ro) (F15.K4 call lf ro) :=
  (KLe.block (KLe.seq (H := (F15.Ht call lf ro)) (J := (F15.Ut call lf ro)) (KLe.refl _) (hd_free rfl)))

theorem F15.B4 (call : CT) (lf ro : Nat) : ∀ n e h, Shaped 45 e → LeO (F15.P4 (F15.L4 call lf ro n) e h) (loopK (execK Tryd.prog call lf ro (sub (codeOf Tryd.f15) [true, true, false, true, false, false])) n e h (F15.K4 call lf ro)) := by
  refine loop_le (fun e h k k' hs hk => execK_mono _ e h k k' hs hk) (kb := fun n => F15.P4 (F15.L4 call lf ro n)) (kx := fun i e h => F15.C4 call lf ro (.exit i e h)) (kr := fun e h => F15.C4 call lf ro (.ret e h)) ?_ ?_ (fun i e h hs => (F15.CK4 call lf ro).exit i e h hs) (fun e h hs => (F15.CK4 call lf ro).ret e h hs)
  · rintro e h ⟨f, rfl⟩
    unfold F15.P4
    refine getK_le fun w2 g2 => ?_
    rw [EF_get (by decide)] at g2
    refine ptrK_le fun p180 o180 z209 => ?_
    subst z209
    refine getK_le fun w3 g3 => ?_
    rw [EF_get (by decide)] at g3
    refine ptrK_le fun p181 o181 z210 => ?_
    subst z210
    refine getK_le fun w5 g5 => ?_
    rw [EF_get (by decide)] at g5
    refine intK_le fun n182 z211 => ?_
    subst z211
    exact LeO.refl _
  · rintro n e h ⟨f, rfl⟩
    unfold F15.P4
    refine getK_le fun w2 g2 => ?_
    rw [EF_get (by decide)] at g2
    refine ptrK_le fun p180 o180 z212 => ?_
    subst z212
    refine getK_le fun w3 g3 => ?_
    rw [EF_get (by decide)] at g3
    refine ptrK_le fun p181 o181 z213 => ?_
    subst z213
    refine getK_le fun w5 g5 => ?_
    rw [EF_get (by decide)] at g5
    refine intK_le fun n182 z214 => ?_
    subst z214
    have hr := F15.R4 call lf ro n f p180 o180 p181 o181 n182 h
    rw [updF_same g2, updF_same g3, updF_same g5] at hr
    exact round_le (H := (F15.H4 call lf ro (F15.L4 call lf ro n))) (J := (F15.U4 call lf ro (F15.L4 call lf ro n))) ⟨(hd_free rfl), (fun e h hs => F15.BJ6 call lf ro (F15.L4 call lf ro n) e h hs)⟩ hr

theorem F15.RJ3 (call : CT) (lf ro : Nat) (f : Nat → Option Value) (p26 : Nat) (o26 : Nat) (p27 : Nat) (o27 : Nat) (h28 : Heap) :
    execH Tryd.prog call ro (F15.Ht call lf ro) (F15.Ut call lf ro) (sub (codeOf Tryd.f15) [true, true]) (EF 45 (updF (updF f 2 (some (.pointer (some ⟨p26, o26, none⟩)))) 3 (some (.pointer (some ⟨p27, o27, none⟩))))) h28 (F15.CJ3 call lf ro) = F15.J3 call lf ro p26 o26 p27 o27 h28 := by kernel_rfl

theorem F15.CKJ3 (call : CT) (lf ro : Nat) : KLe 45 (F15.CJ3 call lf ro) (F15.KJ3 call lf ro) :=
  (KLe.refl _)

theorem F15.BJ3 (call : CT) (lf ro : Nat) : ∀ e h, Shaped 45 e → LeO (F15.PJ3 (F15.J3 call lf ro) e h) (execK Tryd.prog call lf ro (sub (codeOf Tryd.f15) [true, true]) e h (F15.KJ3 call lf ro)) := by
    rintro e h ⟨f, rfl⟩
    unfold F15.PJ3
    refine getK_le fun w2 g2 => ?_
    rw [EF_get (by decide)] at g2
    refine ptrK_le fun p183 o183 z215 => ?_
    subst z215
    refine getK_le fun w3 g3 => ?_
    rw [EF_get (by decide)] at g3
    refine ptrK_le fun p184 o184 z216 => ?_
    subst z216
    have hr := F15.RJ3 call lf ro f p183 o183 p184 o184 h
    rw [updF_same g2, updF_same g3] at hr
    exact cut_le (H := (F15.Ht call lf ro)) (J := (F15.Ut call lf ro)) (F15.CKJ3 call lf ro) ⟨⟨(hd_free rfl), (fun e h hs => F15.B4 call lf ro  lf e h hs)⟩, (hd_free rfl)⟩ hr

theorem F15.le (call : CT) (lf ro : Nat) (x0_0 : Int) (x0_1 : Int) (ax0_2 : Option Addr) (lx0_2 : Nat) (cx0_2 : Nat) (x1_0 : Int) (x1_1 : Int) (ax1_2 : Option Addr) (lx1_2 : Nat) (cx1_2 : Nat) (h : Heap) : LeO (F15.t call lf ro x0_0 x0_1 ax0_2 lx0_2 cx0_2 x1_0 x1_1 ax1_2 lx1_2 cx1_2 h) (bodyK Tryd.prog call lf ro Tryd.f15 [.agg #[.int .i64 x0_0, .int .i64 x0_1, .slice ax0_2 lx0_2 cx0_2], .agg #[.int .i64 x1_0, .int .i64 x1_1, .slice ax1_2 lx1_2 cx1_2]] h) :=
  body_le (c := codeOf Tryd.f15) (H := F15.Ht call lf ro) (J := F15.Ut call lf ro) rfl (Nat.le_of_ble_eq_true rfl) ⟨(hd_free rfl), ⟨(hd_free rfl), (fun e h hs => F15.BJ3 call lf ro  e h hs)⟩⟩ (by kernel_rfl)

/-! ### barscan/raster.CheckImage: function 19 -/

noncomputable def F19.t (call : CT) (lf ro : Nat) (x0_0 : Int) (x0_1 : Int) (ax0_2 : Option Addr) (lx0_2 : Nat) (cx0_2 : Nat) (h : Heap) : Out :=
  pushJ h 1 [.int .i64 x0_0, .int .i64 x0_1, .slice ax0_2 lx0_2 cx0_2] fun h2 =>
  letJ (fun (b21 : Bool) (h22 : Heap) =>
  (ifK b21 (Out.ok (.int .i64 1) h22) (Out.ok (.int .i64 0) h22))) fun j23 =>
  bindO (loadO Tryd.prog 3 (.pointer (some ⟨h.next, 0, none⟩)) h2) fun v24 h25 =>
  intK .i64 v24 fun n26 =>
  bindO (loadO Tryd.prog 3 (.pointer (some ⟨h.next, 1, none⟩)) h25) fun v27 h28 =>
  intK .i64 v27 fun n29 =>
  bindO (call ro 39 [.int .i64 n26, .int .i64 n29] h28) fun v30 h31 =>
  boolK v30 fun b32 =>
  ifK (!b32) (j23 true h31) (bindO (loadO Tryd.prog 22 (.pointer (some ⟨h.next, 2, none⟩)) h31) fun v33 h34 =>
  sliceK v33 fun a35 l35 c35 =>
  bindO (loadO Tryd.prog 3 (.pointer (some ⟨h.next, 0, none⟩)) h34) fun v36 h37 =>
  intK .i64 v36 fun n38 =>
  bindO (loadO Tryd.prog 3 (.pointer (some ⟨h.next, 1, none⟩)) h37) fun v39 h40 =>
  intK .i64 v39 fun n41 =>
  j23 ((l35 : Int) != (IntKind.i64.wrap (n38 * n41))) h40)

noncomputable def F19.Ht (call : CT) (lf ro : Nat) (i : Nat) (e : Env) (h : Heap) : Out := .fail
noncomputable def F19.Ut (call : CT) (lf ro : Nat) (i : Nat) : Option (Env → Heap → Out) := none

theorem F19.le (call : CT) (lf ro : Nat) (x0_0 : Int) (x0_1 : Int) (ax0_2 : Option Addr) (lx0_2 : Nat) (cx0_2 : Nat) (h : Heap) : LeO (F19.t call lf ro x0_0 x0_1 ax0_2 lx0_2 cx0_2 h) (bodyK Tryd.prog call lf ro Tryd.f19 [.agg #[.int .i64 x0_0, .int .i64 x0_1, .slice ax0_2 lx0_2 cx0_2]] h) :=
  body_le (c := codeOf Tryd.f19) (H := F19.Ht call lf ro) (J := F19.Ut call lf ro) rfl (Nat.le_of_ble_eq_true rfl) (hd_free rfl) (by kernel_rfl)

/-! ### barscan/netpbm.known: function 20 -/

noncomputable def F20.t (call : CT) (lf ro : Nat) (x0 : Int) (h : Heap) : Out :=
  letJ (fun (b4 : Bool) (h5 : Heap) =>
  (Out.ok (.bool b4) h5)) fun j6 =>
  bindO (call ro 21 [.int .i64 x0] h) fun v7 h8 =>
  boolK v7 fun b9 =>
  ifK b9 (j6 true h8) (ifK (x0 == 2) (j6 true h8) (j6 (x0 == 5) h8))

noncomputable def F20.Ht (call : CT) (lf ro : Nat) (i : Nat) (e : Env) (h : Heap) : Out := .fail
noncomputable def F20.Ut (call : CT) (lf ro : Nat) (i : Nat) : Option (Env → Heap → Out) := none

theorem F20.le (call : CT) (lf ro : Nat) (x0 : Int) (h : Heap) : LeO (F20.t call lf ro x0 h) (bodyK Tryd.prog call lf ro Tryd.f20 [.int .i64 x0] h) :=
  body_le (c := codeOf Tryd.f20) (H := F20.Ht call lf ro) (J := F20.Ut call lf ro) rfl (Nat.le_of_ble_eq_true rfl) (hd_free rfl) (by kernel_rfl)

/-! ### barscan/netpbm.bitmap: function 21 -/

noncomputable def F21.t (call : CT) (lf ro : Nat) (x0 : Int) (h : Heap) : Out :=
  letJ (fun (b1 : Bool) =>
  (Out.ok (.bool b1) h)) fun j2 =>
  ifK (x0 == 1) (j2 true) (j2 (x0 == 4))

noncomputable def F21.Ht (call : CT) (lf ro : Nat) (i : Nat) (e : Env) (h : Heap) : Out := .fail
noncomputable def F21.Ut (call : CT) (lf ro : Nat) (i : Nat) : Option (Env → Heap → Out) := none

theorem F21.le (call : CT) (lf ro : Nat) (x0 : Int) (h : Heap) : LeO (F21.t call lf ro x0 h) (bodyK Tryd.prog call lf ro Tryd.f21 [.int .i64 x0] h) :=
  body_le (c := codeOf Tryd.f21) (H := F21.Ht call lf ro) (J := F21.Ut call lf ro) rfl (Nat.le_of_ble_eq_true rfl) (hd_free rfl) (by kernel_rfl)

/-! ### slices.ContainsFunc[[]uint8,uint8]: function 22 -/

noncomputable def F22.t (call : CT) (lf ro : Nat) (ax0 : Option Addr) (lx0 : Nat) (cx0 : Nat) (h : Heap) : Out :=
  bindO (call ro 40 [.slice ax0 lx0 cx0, .func (.func 23) #[] #[]] h) fun v4 h5 =>
  intK .i64 v4 fun n6 =>
  Out.ok (.bool (decide (n6 ≥ 0))) h5

noncomputable def F22.Ht (call : CT) (lf ro : Nat) (i : Nat) (e : Env) (h : Heap) : Out := .fail
noncomputable def F22.Ut (call : CT) (lf ro : Nat) (i : Nat) : Option (Env → Heap → Out) := none

theorem F22.le (call : CT) (lf ro : Nat) (ax0 : Option Addr) (lx0 : Nat) (cx0 : Nat) (h : Heap) : LeO (F22.t call lf ro ax0 lx0 cx0 h) (bodyK Tryd.prog call lf ro Tryd.f22 [.slice ax0 lx0 cx0, .func (.func 23) #[] #[]] h) :=
  body_le (c := codeOf Tryd.f22) (H := F22.Ht call lf ro) (J := F22.Ut call lf ro) rfl (Nat.le_of_ble_eq_true rfl) (hd_free rfl) (by kernel_rfl)

/-! ### barscan/netpbm.Write$1: function 23 -/

noncomputable def F23.t (call : CT) (lf ro : Nat) (x0 : Int) (h : Heap) : Out :=
  letJ (fun (b1 : Bool) =>
  (Out.ok (.bool b1) h)) fun j2 =>
  ifK (x0 != 0) (j2 (x0 != 255)) (j2 false)

noncomputable def F23.Ht (call : CT) (lf ro : Nat) (i : Nat) (e : Env) (h : Heap) : Out := .fail
noncomputable def F23.Ut (call : CT) (lf ro : Nat) (i : Nat) : Option (Env → Heap → Out) := none

theorem F23.le (call : CT) (lf ro : Nat) (x0 : Int) (h : Heap) : LeO (F23.t call lf ro x0 h) (bodyK Tryd.prog call lf ro Tryd.f23 [.int .u8 x0] h) :=
  body_le (c := codeOf Tryd.f23) (H := F23.Ht call lf ro) (J := F23.Ut call lf ro) rfl (Nat.le_of_ble_eq_true rfl) (hd_free rfl) (by kernel_rfl)

/-! ### strconv.AppendInt: function 24 -/

noncomputable def F24.t (call : CT) (lf ro : Nat) (ax0 : Option Addr) (lx0 : Nat) (cx0 : Nat) (x1 : Int) (x2 : Int) (h : Heap) : Out :=
  bindO (call ro 41 [.slice ax0 lx0 cx0, .int .i64 x1, .int .i64 x2] h) fun v4 h5 =>
  sliceK v4 fun a6 l6 c6 =>
  Out.ok (.slice a6 l6 c6) h5

noncomputable def F24.Ht (call : CT) (lf ro : Nat) (i : Nat) (e : Env) (h : Heap) : Out := .fail
noncomputable def F24.Ut (call : CT) (lf ro : Nat) (i : Nat) : Option (Env → Heap → Out) := none

theorem F24.le (call : CT) (lf ro : Nat) (ax0 : Option Addr) (lx0 : Nat) (cx0 : Nat) (x1 : Int) (x2 : Int) (h : Heap) : LeO (F24.t call lf ro ax0 lx0 cx0 x1 x2 h) (bodyK Tryd.prog call lf ro Tryd.f24 [.slice ax0 lx0 cx0, .int .i64 x1, .int .i64 x2] h) :=
  body_le (c := codeOf Tryd.f24) (H := F24.Ht call lf ro) (J := F24.Ut call lf ro) rfl (Nat.le_of_ble_eq_true rfl) (hd_free rfl) (by kernel_rfl)

/-! ### barscan/netpbm.characters: function 25 -/

noncomputable def F25.J7 (call : CT) (lf ro : Nat) (kb2 : (Option Addr) → Nat → Nat → (Option Addr) → Nat → Nat → (Option Addr) → Nat → Nat → Int → Int → Heap → Out) (a23 : Option Addr) (l23 : Nat) (c23 : Nat) (a24 : Option Addr) (l24 : Nat) (c24 : Nat) (n25 : Int) (n26 : Int) (a27 : Option Addr) (l27 : Nat) (c27 : Nat) (n28 : Int) (n29 : Int) (h30 : Heap) : Out :=
  letJ (fun (a87 : Option Addr) (l87 : Nat) (c87 : Nat) (h88 : Heap) =>
  (kb2 a87 l87 c87 a24 l24 c24 a27 l27 c27 n28 (IntKind.i64.wrap (n29 + 1)) h88)) fun j89 =>
  pushJ h30 1 [.int .u8 n26] fun h136 =>
  bindO (appO Tryd.prog ro 22 22 (.slice a23 l23 c23) (.slice (some ⟨h30.next, 0, none⟩) 1 1) h136) fun v137 h138 =>
  sliceK v137 fun a139 l139 c139 =>
  letJ (fun (b140 : Bool) =>
  (ifK b140 (pushJ h138 1 [.int .u8 10] fun h142 =>
  bindO (appO Tryd.prog ro 22 22 (.slice a139 l139 c139) (.slice (some ⟨h138.next, 0, none⟩) 1 1) h142) fun v143 h144 =>
  sliceK v143 fun a145 l145 c145 =>
  j89 a145 l145 c145 h144) (j89 a139 l139 c139 h138))) fun j141 =>
  ifK ((Int.tmod n25 70) == 69) (j141 true) (j141 (n25 == (IntKind.i64.wrap ((l24 : Int) - 1))))

noncomputable def F25.PJ7 (kb : (Option Addr) → Nat → Nat → (Option Addr) → Nat → Nat → Int → Int → (Option Addr) → Nat → Nat → Int → Int → Heap → Out) (e : Env) (h : Heap) : Out :=
  getK (e.get 0) fun w0 =>
  sliceK w0 fun a146 l146 c146 =>
  getK (e.get 1) fun w1 =>
  sliceK w1 fun a147 l147 c147 =>
  getK (e.get 5) fun w5 =>
  intK .i64 w5 fun n148 =>
  getK (e.get 7) fun w7 =>
  intK .u8 w7 fun n149 =>
  getK (e.get 8) fun w8 =>
  sliceK w8 fun a150 l150 c150 =>
  getK (e.get 9) fun w9 =>
  intK .i64 w9 fun n151 =>
  getK (e.get 10) fun w10 =>
  intK .i64 w10 fun n152 =>
  kb a146 l146 c146 a147 l147 c147 n148 n149 a150 l150 c150 n151 n152 h

noncomputable def F25.J3 (call : CT) (lf ro : Nat) (kb2 : (Option Addr) → Nat → Nat → (Option Addr) → Nat → Nat → (Option Addr) → Nat → Nat → Int → Int → Heap → Out) (a7 : Option Addr) (l7 : Nat) (c7 : Nat) (a8 : Option Addr) (l8 : Nat) (c8 : Nat) (a9 : Option Addr) (l9 : Nat) (c9 : Nat) (n10 : Int) (n11 : Int) (h12 : Heap) : Out :=
  bindO (idxO Tryd.prog 22 (.slice a9 l9 c9) (.int .i64 n11) h12) fun v178 h179 =>
  bindO (loadO Tryd.prog 5 v178 h179) fun v180 h181 =>
  intK .u8 v180 fun n182 =>
  ifK (n182 == 0) (F25.J7 call lf ro kb2 a7 l7 c7 a8 l8 c8 n11 49 a9 l9 c9 n10 n11 h181) (F25.J7 call lf ro kb2 a7 l7 c7 a8 l8 c8 n11 48 a9 l9 c9 n10 n11 h181)

noncomputable def F25.PJ3 (kb : (Option Addr) → Nat → Nat → (Option Addr) → Nat → Nat → (Option Addr) → Nat → Nat → Int → Int → Heap → Out) (e : Env) (h : Heap) : Out :=
  getK (e.get 0) fun w0 =>
  sliceK w0 fun a183 l183 c183 =>
  getK (e.get 1) fun w1 =>
  sliceK w1 fun a184 l184 c184 =>
  getK (e.get 8) fun w8 =>
  sliceK w8 fun a185 l185 c185 =>
  getK (e.get 9) fun w9 =>
  intK .i64 w9 fun n186 =>
  getK (e.get 10) fun w10 =>
  intK .i64 w10 fun n187 =>
  kb a183 l183 c183 a184 l184 c184 a185 l185 c185 n186 n187 h

noncomputable def F25.L2 (call : CT) (lf ro : Nat) : Nat → (Option Addr) → Nat → Nat → (Option Addr) → Nat → Nat → (Option Addr) → Nat → Nat → Int → Int → Heap → Out
  | 0, _, _, _, _, _, _, _, _, _, _, _, _ => .fail
  | n + 1, a1, l1, c1, a2, l2, c2, a3, l3, c3, n4, n5, h6 =>
  ifK (decide (n5 < n4)) (F25.J3 call lf ro (F25.L2 call lf ro n) a1 l1 c1 a2 l2 c2 a3 l3 c3 n4 n5 h6) (Out.ok (.slice a1 l1 c1) h6)

noncomputable def F25.P2 (kb : (Option Addr) → Nat → Nat → (Option Addr) → Nat → Nat → (Option Addr) → Nat → Nat → Int → Int → Heap → Out) (e : Env) (h : Heap) : Out :=
  getK (e.get 0) fun w0 =>
  sliceK w0 fun a188 l188 c188 =>
  getK (e.get 1) fun w1 =>
  sliceK w1 fun a189 l189 c189 =>
  getK (e.get 8) fun w8 =>
  sliceK w8 fun a190 l190 c190 =>
  getK (e.get 9) fun w9 =>
  intK .i64 w9 fun n191 =>
  getK (e.get 10) fun w10 =>
  intK .i64 w10 fun n192 =>
  kb a188 l188 c188 a189 l189 c189 a190 l190 c190 n191 n192 h

noncomputable def F25.t (call : CT) (lf ro : Nat) (ax0 : Option Addr) (lx0 : Nat) (cx0 : Nat) (ax1 : Option Addr) (lx1 : Nat) (cx1 : Nat) (h : Heap) : Out :=
  F25.L2 call lf ro lf ax0 lx0 cx0 ax1 lx1 cx1 ax1 lx1 cx1 (lx1 : Int) 0 h

noncomputable def F25.Ht (call : CT) (lf ro : Nat) (i : Nat) (e : Env) (h : Heap) : Out := ifK (i == 2) (F25.P2 (F25.L2 call lf ro lf) e h) (.fail)
noncomputable def F25.Ut (call : CT) (lf ro : Nat) (i : Nat) : Option (Env → Heap → Out) := none

noncomputable def F25.H2 (call : CT) (lf ro : Nat) (kb2 : (Option Addr) → Nat → Nat → (Option Addr) → Nat → Nat → (Option Addr) → Nat → Nat → Int → Int → Heap → Out) (i : Nat) (e : Env) (h : Heap) : Out := ifK (i == 2) (F25.P2 (F25.L2 call lf ro lf) e h) (.fail)
noncomputable def F25.U2 (call : CT) (lf ro : Nat) (kb2 : (Option Addr) → Nat → Nat → (Option Addr) → Nat → Nat → (Option Addr) → Nat → Nat → Int → Int → Heap → Out) (i : Nat) : Option (Env → Heap → Out) := ifJ (i == 7) (some (F25.PJ7 (F25.J7 call lf ro kb2))) (ifJ (i == 3) (some (F25.PJ3 (F25.J3 call lf ro kb2))) (none))

noncomputable def F25.C2 (call : CT) (lf ro : Nat) : COut → Out := blockK 0 (seqH Tryd.prog call ro (F25.Ht call lf ro) (F25.Ut call lf ro) (sub (codeOf Tryd.f25) [true, true]) (endK Tryd.prog Tryd.f25))

noncomputable def F25.K2 (call : CT) (lf ro : Nat) : COut → Out := blockK 0 (seqK Tryd.prog call lf ro (sub (codeOf Tryd.f25) [true, true]) (endK Tryd.prog Tryd.f25))

noncomputable def F25.CJ7 (call : CT) (lf ro : Nat) (kb2 : (Option Addr) → Nat → Nat → (Option Addr) → Nat → Nat → (Option Addr) → Nat → Nat → Int → Int → Heap → Out) : COut → Out := blockK 1 (seqH Tryd.prog call ro (F25.H2 call lf ro kb2) (F25.U2 call lf ro kb2) (sub (codeOf Tryd.f25) [true, false, true, false, false, true, true, true]) (outK (F25.P2 kb2) (fun i e h => F25.C2 call lf ro (.exit i e h)) (fun e h => F25.C2 call lf ro (.ret e h))))

noncomputable def F25.KJ7 (call : CT) (lf ro : Nat) (kb2 : (Option Addr) → Nat → Nat → (Option Addr) → Nat → Nat → (Option Addr) → Nat → Nat → Int → Int → Heap → Out) : COut → Out := blockK 1 (seqK Tryd.prog call lf ro (sub (codeOf Tryd.f25) [true, false, true, false, false, true, true, true]) (outK (F25.P2 kb2) (fun i e h => F25.C2 call lf ro (.exit i e h)) (fun e h => F25.C2 call lf ro (.ret e h))))

noncomputable def F25.CJ3 (call : CT) (lf ro : Nat) (kb2 : (Option Addr) → Nat → Nat → (Option Addr) → Nat → Nat → (Option Addr) → Nat → Nat → Int → Int → Heap → Out) : COut → Out := outK (F25.P2 kb2) (fun i e h => F25.C2 call lf ro (.exit i e h)) (fun e h => F25.C2 call lf ro (.ret e h))

noncomputable def F25.KJ3 (call : CT) (lf ro : Nat) (kb2 : (Option Addr) → Nat → Nat → (Option Addr) → Nat → Nat → (Option Addr) → Nat → Nat → Int → Int → Heap → Out) : COut → Out := outK (F25.P2 kb2) (fun i e h => F25.C2 call lf ro (.exit i e h)) (fun e h => F25.C2 call lf ro (.ret e h))

theorem F25.RJ7 (call : CT) (lf ro : Nat) (kb2 : (Option Addr) → Nat → Nat → (Option Addr) → Nat → Nat → (Option Addr) → Nat → Nat → Int → Int → Heap → Out) (f : Nat → Option Value) (a23 : Option Addr) (l23 : Nat) (c23 : Nat) (a24 : Option Addr) (l24 : Nat) (c24 : Nat) (n25 : Int) (n26 : Int) (a27 : Option Addr) (l27 : Nat) (c27 : Nat) (n28 : Int) (n29 : Int) (h30 : Heap) :
    execH Tryd.prog call ro (F25.H2 call lf ro kb2) (F25.U2 call lf ro kb2) (sub (codeOf Tryd.f25) [true, false, true, false, false, true, true, false, false, true, true, true]) (EF 36 (updF (updF (updF (updF (updF (updF (updF f 0 (some (.slice a23 l23 c23))) 1 (some (.slice a24 l24 c24))) 5 (some (.int .i64 n25))) 7 (some (.int .u8 n26))) 8 (some (.slice a27 l27 c27))) 9 (some (.int .i64 n28))) 10 (some (.int .i64 n29)))) h30 (F25.CJ7 call lf ro kb2) = F25.J7 call lf ro kb2 a23 l23 c23 a24 l24 c24 n25 n26 a27 l27 c27 n28 n29 h30 := by kernel_rfl

theorem F25.CKJ7 (call : CT) (lf ro : Nat) (kb2 : (Option Addr) → Nat → Nat → (Option Addr) → Nat → Nat → (Option Addr) → Nat → Nat → Int → Int → Heap → Out) : KLe 36 (F25.CJ7 call lf ro kb2) (F25.KJ7 call lf ro kb2) :=
  (KLe.block (KLe.seq (H := (F25.H2 call lf ro kb2)) (J := (F25.U2 call lf ro kb2)) (KLe.refl _) (hd_free rfl)))

theorem F25.BJ7 (call : CT) (lf ro : Nat) (kb2 : (Option Addr) → Nat → Nat → (Option Addr) → Nat → Nat → (Option Addr) → Nat → Nat → Int → Int → Heap → Out) : ∀ e h, Shaped 36 e → LeO (F25.PJ7 (F25.J7 call lf ro kb2) e h) (execK Tryd.prog call lf ro (sub (codeOf Tryd.f25) [true, false, true, false, false, true, true, false, false, true, true, true]) e h (F25.KJ7 call lf ro kb2)) := by
    rintro e h ⟨f, rfl⟩
    unfold F25.PJ7
    refine getK_le fun w0 g0 => ?_
    rw [EF_get (by decide)] at g0
    refine sliceK_le fun a146 l146 c146 z193 => ?_
    subst z193
    refine getK_le fun w1 g1 => ?_
    rw [EF_get (by decide)] at g1
    refine sliceK_le fun a147 l147 c147 z194 => ?_
    subst z194
    refine getK_le fun w5 g5 => ?_
    rw [EF_get (by decide)] at g5
    refine intK_le fun n148 z195 => ?_
    subst z195
    refine getK_le fun w7 g7 => ?_
    rw [EF_get (by decide)] at g7
    refine intK_le fun n149 z196 => ?_
    subst z196
    refine getK_le fun w8 g8 => ?_
    rw [EF_get (by decide)] at g8
    refine sliceK_le fun a150 l150 c150 z197 => ?_
    subst z197
    refine getK_le fun w9 g9 => ?_
    rw [EF_get (by decide)] at g9
    refine intK_le fun n151 z198 => ?_
    subst z198
    refine getK_le fun w10 g10 => ?_
    rw [EF_get (by decide)] at g10
    refine intK_le fun n152 z199 => ?_
    subst z199
    have hr := F25.RJ7 call lf ro kb2 f a146 l146 c146 a147 l147 c147 n148 n149 a150 l150 c150 n151 n152 h
    rw [updF_same g0, updF_same g1, updF_same g5, updF_same g7, updF_same g8, updF_same g9, updF_same g10] at hr
    exact cut_le (H := (F25.H2 call lf ro kb2)) (J := (F25.U2 call lf ro kb2)) (F25.CKJ7 call lf ro kb2) (hd_free rfl) hr

theorem F25.RJ3 (call : CT) (lf ro : Nat) (kb2 : (Option Addr) → Nat → Nat → (Option Addr) → Nat → Nat → (Option Addr) → Nat → Nat → Int → Int → Heap → Out) (f : Nat → Option Value) (a7 : Option Addr) (l7 : Nat) (c7 : Nat) (a8 : Option Addr) (l8 : Nat) (c8 : Nat) (a9 : Option Addr) (l9 : Nat) (c9 : Nat) (n10 : Int) (n11 : Int) (h12 : Heap) :
    execH Tryd.prog call ro (F25.H2 call lf ro kb2) (F25.U2 call lf ro kb2) (sub (codeOf Tryd.f25) [true, false, true, false, false, true, true]) (EF 36 (updF (updF (updF (updF (updF f 0 (some (.slice a7 l7 c7))) 1 (some (.slice a8 l8 c8))) 8 (some (.slice a9 l9 c9))) 9 (some (.int .i64 n10))) 10 (some (.int .i64 n11)))) h12 (F25.CJ3 call lf ro kb2) = F25.J3 call lf ro kb2 a7 l7 c7 a8 l8 c8 a9 l9 c9 n10 n11 h12 := by kernel_rfl

theorem F25.CKJ3 (call : CT) (lf ro : Nat) (kb2 : (Option Addr) → Nat → Nat → (Option Addr) → Nat → Nat → (Option Addr) → Nat → Nat → Int → Int → Heap → Out) : KLe 36 (F25.CJ3 call lf ro kb2) (F25.KJ3 call lf ro kb2) :=
  (KLe.refl _)

theorem F25.BJ3 (call : CT) (lf ro : Nat) (kb2 : (Option Addr) → Nat → Nat → (Option Addr) → Nat → Nat → (Option Addr) → Nat → Nat → Int → Int → Heap → Out) : ∀ e h, Shaped 36 e → LeO (F25.PJ3 (F25.J3 call lf ro kb2) e h) (execK Tryd.prog call lf ro (sub (codeOf Tryd.f25) [true, false, true, false, false, true, true]) e h (F25.KJ3 call lf ro kb2)) := by
    rintro e h ⟨f, rfl⟩
    unfold F25.PJ3
    refine getK_le fun w0 g0 => ?_
    rw [EF_get (by decide)] at g0
    refine sliceK_le fun a183 l183 c183 z207 => ?_
    subst z207
    refine getK_le fun w1 g1 => ?_
    rw [EF_get (by decide)] at g1
    refine sliceK_le fun a184 l184 c184 z208 => ?_
    subst z208
    refine getK_le fun w8 g8 => ?_
    rw [EF_get (by decide)] at g8
    refine sliceK_le fun a185 l185 c185 z209 => ?_
    subst z209
    refine getK_le fun w9 g9 => ?_
    rw [EF_get (by decide)] at g9
    refine intK_le fun n186 z210 => ?_
    subst z210
    refine getK_le fun w10 g10 => ?_
    rw [EF_get (by decide)] at g10
    refine intK_le fun n187 z211 => ?_
    subst z211
    have hr := F25.RJ3 call lf ro kb2 f a183 l183 c183 a184 l184 c184 a185 l185 c185 n186 n187 h
    rw [updF_same g0, updF_same g1, updF_same g8, updF_same g9, updF_same g10] at hr
    exact cut_le (H := (F25.H2 call lf ro kb2)) (J := (F25.U2 call lf ro kb2)) (F25.CKJ3 call lf ro kb2) ⟨⟨(hd_free rfl), ⟨(hd_free rfl), ⟨(hd_free rfl), (fun e h hs => F25.BJ7 call lf ro kb2 e h hs)⟩⟩⟩, (hd_free rfl)⟩ hr

theorem F25.R2 (call : CT) (lf ro : Nat) (n : Nat) (f : Nat → Option Value) (a1 : Option Addr) (l1 : Nat) (c1 : Nat) (a2 : Option Addr) (l2 : Nat) (c2 : Nat) (a3 : Option Addr) (l3 : Nat) (c3 : Nat) (n4 : Int) (n5 : Int) (h6 : Heap) :
    execH Tryd.prog call ro (F25.H2 call lf ro (F25.L2 call lf ro n)) (F25.U2 call lf ro (F25.L2 call lf ro n)) (sub (codeOf Tryd.f25) [true, false, true, false, false]) (EF 36 (updF (updF (updF (updF (updF f 0 (some (.slice a1 l1 c1))) 1 (some (.slice a2 l2 c2))) 8 (some (.slice a3 l3 c3))) 9 (some (.int .i64 n4))) 10 (some (.int .i64 n5)))) h6 (outK (F25.P2 (F25.L2 call lf ro n)) (fun i e h => F25.C2 call lf ro (.exit i e h)) (fun e h => F25.C2 call lf ro (.ret e h))) = F25.L2 call lf ro (n + 1) a1 l1 c1 a2 l2 c2 a3 l3 c3 n4 n5 h6 := by kernel_rfl

theorem F25.CK2 (call : CT) (lf ro : Nat) : KLe 36 (F25.C2 call lf ro) (F25.K2 call lf ro) :=
  (KLe.block (KLe.seq (H := (F25.Ht call lf ro)) (J := (F25.Ut call lf ro)) (KLe.refl _) (hd_free rfl)))

theorem F25.B2 (call : CT) (lf ro : Nat) : ∀ n e h, Shaped 36 e → LeO (F25.P2 (F25.L2 call lf ro n) e h) (loopK (execK Tryd.prog call lf ro (sub (codeOf Tryd.f25) [true, false, true, false, false])) n e h (F25.K2 call lf ro)) := by
  refine loop_le (fun e h k k' hs hk => execK_mono _ e h k k' hs hk) (kb := fun n => F25.P2 (F25.L2 call lf ro n)) (kx := fun i e h => F25.C2 call lf ro (.exit i e h)) (kr := fun e h => F25.C2 call lf ro (.ret e h)) ?_ ?_ (fun i e h hs => (F25.CK2 call lf ro).exit i e h hs) (fun e h hs => (F25.CK2 call lf ro).ret e h hs)
  · rintro e h ⟨f, rfl⟩
    unfold F25.P2
    refine getK_le fun w0 g0 => ?_
    rw [EF_get (by decide)] at g0
    refine sliceK_le fun a188 l188 c188 z217 => ?_
    subst z217
    refine getK_le fun w1 g1 => ?_
    rw [EF_get (by decide)] at g1
    refine sliceK_le fun a189 l189 c189 z218 => ?_
    subst z218
    refine getK_le fun w8 g8 => ?_
    rw [EF_get (by decide)] at g8
    refine sliceK_le fun a190 l190 c190 z219 => ?_
    subst z219
    refine getK_le fun w9 g9 => ?_
    rw [EF_get (by decide)] at g9
    refine intK_le fun n191 z220 => ?_
    subst z220
    refine getK_le fun w10 g10 => ?_
    rw [EF_get (by decide)] at g10
    refine intK_le fun n192 z221 => ?_
    subst z221
    exact LeO.refl _
  · rintro n e h ⟨f, rfl⟩
    unfold F25.P2
    refine getK_le fun w0 g0 => ?_
    rw [EF_get (by decide)] at g0
    refine sliceK_le fun a188 l188 c188 z222 => ?_
    subst z222
    refine getK_le fun w1 g1 => ?_
    rw [EF_get (by decide)] at g1
    refine sliceK_le fun a189 l189 c189 z223 => ?_
    subst z223
    refine getK_le fun w8 g8 => ?_
    rw [EF_get (by decide)] at g8
    refine sliceK_le fun a190 l190 c190 z224 => ?_
    subst z224
    refine getK_le fun w9 g9 => ?_
    rw [EF_get (by decide)] at g9
    refine intK_le fun n191 z225 => ?_
    subst z225
    refine getK_le fun w10 g10 => ?_
    rw [EF_get (by decide)] at g10
    refine intK_le fun n192 z226 => ?_
    subst z226
    have hr := F25.R2 call lf ro n f a188 l188 c188 a189 l189 c189 a190 l190 c190 n191 n192 h
    rw [updF_same g0, updF_same g1, updF_same g8, updF_same g9, updF_same g10] at hr
    exact round_le (H := (F25.H2 call lf ro (F25.L2 call lf ro n))) (J := (F25.U2 call lf ro (F25.L2 call lf ro n))) ⟨(hd_free rfl), ⟨(hd_free rfl), (fun e h hs => F25.BJ3 call lf ro (F25.L2 call lf ro n) e h hs)⟩⟩ hr

theorem F25.le (call : CT) (lf ro : Nat) (ax0 : Option Addr) (lx0 : Nat) (cx0 : Nat) (ax1 : Option Addr) (lx1 : Nat) (cx1 : Nat) (h : Heap) : LeO (F25.t call lf ro ax0 lx0 cx0 ax1 lx1 cx1 h) (bodyK Tryd.prog call lf ro Tryd.f25 [.slice ax0 lx0 cx0, .slice ax1 lx1 cx1] h) :=
  body_le (c := codeOf Tryd.f25) (H := F25.Ht call lf ro) (J := F25.Ut call lf ro) rfl (Nat.le_of_ble_eq_true rfl) ⟨(hd_free rfl), ⟨⟨(hd_free rfl), (fun e h hs => F25.B2 call lf ro  lf e h hs)⟩, (hd_free rfl)⟩⟩ (by kernel_rfl)

/-! ### barscan/netpbm.numbers: function 26 -/

noncomputable def F26.J6 (call : CT) (lf ro : Nat) (kb2 : (Option Addr) → Nat → Nat → (Option Addr) → Nat → Nat → (Option Addr) → Nat → Nat → Int → Int → Heap → Out) (a29 : Option Addr) (l29 : Nat) (c29 : Nat) (a30 : Option Addr) (l30 : Nat) (c30 : Nat) (a31 : Option Addr) (l31 : Nat) (c31 : Nat) (n32 : Int) (n33 : Int) (b34 : Bool) (h35 : Heap) : Out :=
  letJ (fun (a68 : Option Addr) (l68 : Nat) (c68 : Nat) (h69 : Heap) =>
  (kb2 a68 l68 c68 a30 l30 c30 a31 l31 c31 n32 (IntKind.i64.wrap (n33 + 1)) h69)) fun j70 =>
  ifK b34 (pushJ h35 1 [.int .u8 10] fun h95 =>
  bindO (appO Tryd.prog ro 22 22 (.slice a29 l29 c29) (.slice (some ⟨h35.next, 0, none⟩) 1 1) h95) fun v96 h97 =>
  sliceK v96 fun a98 l98 c98 =>
  j70 a98 l98 c98 h97) (pushJ h35 1 [.int .u8 32] fun h99 =>
  bindO (appO Tryd.prog ro 22 22 (.slice a29 l29 c29) (.slice (some ⟨h35.next, 0, none⟩) 1 1) h99) fun v100 h101 =>
  sliceK v100 fun a102 l102 c102 =>
  j70 a102 l102 c102 h101)

noncomputable def F26.PJ6 (kb : (Option Addr) → Nat → Nat → (Option Addr) → Nat → Nat → (Option Addr) → Nat → Nat → Int → Int → Bool → Heap → Out) (e : Env) (h : Heap) : Out :=
  getK (e.get 0) fun w0 =>
  sliceK w0 fun a103 l103 c103 =>
  getK (e.get 1) fun w1 =>
  sliceK w1 fun a104 l104 c104 =>
  getK (e.get 7) fun w7 =>
  sliceK w7 fun a105 l105 c105 =>
  getK (e.get 8) fun w8 =>
  intK .i64 w8 fun n106 =>
  getK (e.get 9) fun w9 =>
  intK .i64 w9 fun n107 =>
  getK (e.get 27) fun w27 =>
  boolK w27 fun b108 =>
  kb a103 l103 c103 a104 l104 c104 a105 l105 c105 n106 n107 b108 h

noncomputable def F26.J3 (call : CT) (lf ro : Nat) (kb2 : (Option Addr) → Nat → Nat → (Option Addr) → Nat → Nat → (Option Addr) → Nat → Nat → Int → Int → Heap → Out) (a7 : Option Addr) (l7 : Nat) (c7 : Nat) (a8 : Option Addr) (l8 : Nat) (c8 : Nat) (a9 : Option Addr) (l9 : Nat) (c9 : Nat) (n10 : Int) (n11 : Int) (h12 : Heap) : Out :=
  bindO (idxO Tryd.prog 22 (.slice a9 l9 c9) (.int .i64 n11) h12) fun v146 h147 =>
  bindO (loadO Tryd.prog 5 v146 h147) fun v148 h149 =>
  intK .u8 v148 fun n150 =>
  bindO (call ro 24 [.slice a7 l7 c7, .int .i64 (IntKind.i64.wrap n150), .int .i64 10] h149) fun v154 h155 =>
  sliceK v154 fun a156 l156 c156 =>
  ifK ((Int.tmod n11 17) == 16) (F26.J6 call lf ro kb2 a156 l156 c156 a8 l8 c8 a9 l9 c9 n10 n11 true h155) (F26.J6 call lf ro kb2 a156 l156 c156 a8 l8 c8 a9 l9 c9 n10 n11 (n11 == (IntKind.i64.wrap ((l8 : Int) - 1))) h155)

noncomputable def F26.PJ3 (kb : (Option Addr) → Nat → Nat → (Option Addr) → Nat → Nat → (Option Addr) → Nat → Nat → Int → Int → Heap → Out) (e : Env) (h : Heap) : Out :=
  getK (e.get 0) fun w0 =>
  sliceK w0 fun a157 l157 c157 =>
  getK (e.get 1) fun w1 =>
  sliceK w1 fun a158 l158 c158 =>
  getK (e.get 7) fun w7 =>
  sliceK w7 fun a159 l159 c159 =>
  getK (e.get 8) fun w8 =>
  intK .i64 w8 fun n160 =>
  getK (e.get 9) fun w9 =>
  intK .i64 w9 fun n161 =>
  kb a157 l157 c157 a158 l158 c158 a159 l159 c159 n160 n161 h

noncomputable def F26.L2 (call : CT) (lf ro : Nat) : Nat → (Option Addr) → Nat → Nat → (Option Addr) → Nat → Nat → (Option Addr) → Nat → Nat → Int → Int → Heap → Out
  | 0, _, _, _, _, _, _, _, _, _, _, _, _ => .fail
  | n + 1, a1, l1, c1, a2, l2, c2, a3, l3, c3, n4, n5, h6 =>
  ifK (decide (n5 < n4)) (F26.J3 call lf ro (F26.L2 call lf ro n) a1 l1 c1 a2 l2 c2 a3 l3 c3 n4 n5 h6) (Out.ok (.slice a1 l1 c1) h6)

noncomputable def F26.P2 (kb : (Option Addr) → Nat → Nat → (Option Addr) → Nat → Nat → (Option Addr) → Nat → Nat → Int → Int → Heap → Out) (e : Env) (h : Heap) : Out :=
  getK (e.get 0) fun w0 =>
  sliceK w0 fun a162 l162 c162 =>
  getK (e.get 1) fun w1 =>
  sliceK w1 fun a163 l163 c163 =>
  getK (e.get 7) fun w7 =>
  sliceK w7 fun a164 l164 c164 =>
  getK (e.get 8) fun w8 =>
  intK .i64 w8 fun n165 =>
  getK (e.get 9) fun w9 =>
  intK .i64 w9 fun n166 =>
  kb a162 l162 c162 a163 l163 c163 a164 l164 c164 n165 n166 h

noncomputable def F26.t (call : CT) (lf ro : Nat) (ax0 : Option Addr) (lx0 : Nat) (cx0 : Nat) (ax1 : Option Addr) (lx1 : Nat) (cx1 : Nat) (h : Heap) : Out :=
  F26.L2 call lf ro lf ax0 lx0 cx0 ax1 lx1 cx1 ax1 lx1 cx1 (lx1 : Int) 0 h

noncomputable def F26.Ht (call : CT) (lf ro : Nat) (i : Nat) (e : Env) (h : Heap) : Out := ifK (i == 2) (F26.P2 (F26.L2 call lf ro lf) e h) (.fail)
noncomputable def F26.Ut (call : CT) (lf ro : Nat) (i : Nat) : Option (Env → Heap → Out) := none

noncomputable def F26.H2 (call : CT) (lf ro : Nat) (kb2 : (Option Addr) → Nat → Nat → (Option Addr) → Nat → Nat → (Option Addr) → Nat → Nat → Int → Int → Heap → Out) (i : Nat) (e : Env) (h : Heap) : Out := ifK (i == 2) (F26.P2 (F26.L2 call lf ro lf) e h) (.fail)
noncomputable def F26.U2 (call : CT) (lf ro : Nat) (kb2 : (Option Addr) → Nat → Nat → (Option Addr) → Nat → Nat → (Option Addr) → Nat → Nat → Int → Int → Heap → Out) (i : Nat) : Option (Env → Heap → Out) := ifJ (i == 6) (some (F26.PJ6 (F26.J6 call lf ro kb2))) (ifJ (i == 3) (some (F26.PJ3 (F26.J3 call lf ro kb2))) (none))

noncomputable def F26.C2 (call : CT) (lf ro : Nat) : COut → Out := blockK 0 (seqH Tryd.prog call ro (F26.Ht call lf ro) (F26.Ut call lf ro) (sub (codeOf Tryd.f26) [true, true]) (endK Tryd.prog Tryd.f26))

noncomputable def F26.K2 (call : CT) (lf ro : Nat) : COut → Out := blockK 0 (seqK Tryd.prog call lf ro (sub (codeOf Tryd.f26) [true, true]) (endK Tryd.prog Tryd.f26))

noncomputable def F26.CJ6 (call : CT) (lf ro : Nat) (kb2 : (Option Addr) → Nat → Nat → (Option Addr) → Nat → Nat → (Option Addr) → Nat → Nat → Int → Int → Heap → Out) : COut → Out := blockK 1 (seqH Tryd.prog call ro (F26.H2 call lf ro kb2) (F26.U2 call lf ro kb2) (sub (codeOf Tryd.f26) [true, false, true, false, false, true, true, true]) (outK (F26.P2 kb2) (fun i e h => F26.C2 call lf ro (.exit i e h)) (fun e h => F26.C2 call lf ro (.ret e h))))

noncomputable def F26.KJ6 (call : CT) (lf ro : Nat) (kb2 : (Option Addr) → Nat → Nat → (Option Addr) → Nat → Nat → (Option Addr) → Nat → Nat → Int → Int → Heap → Out) : COut → Out := blockK 1 (seqK Tryd.prog call lf ro (sub (codeOf Tryd.f26) [true, false, true, false, false, true, true, true]) (outK (F26.P2 kb2) (fun i e h => F26.C2 call lf ro (.exit i e h)) (fun e h => F26.C2 call lf ro (.ret e h))))

noncomputable def F26.CJ3 (call : CT) (lf ro : Nat) (kb2 : (Option Addr) → Nat → Nat → (Option Addr) → Nat → Nat → (Option Addr) → Nat → Nat → Int → Int → Heap → Out) : COut → Out := outK (F26.P2 kb2) (fun i e h => F26.C2 call lf ro (.exit i e h)) (fun e h => F26.C2 call lf ro (.ret e h))

noncomputable def F26.KJ3 (call : CT) (lf ro : Nat) (kb2 : (Option Addr) → Nat → Nat → (Option Addr) → Nat → Nat → (Option Addr) → Nat → Nat → Int → Int → Heap → Out) : COut → Out := outK (F26.P2 kb2) (fun i e h => F26.C2 call lf ro (.exit i e h)) (fun e h => F26.C2 call lf ro (.ret e h))

theorem F26.RJ6 (call : CT) (lf ro : Nat) (kb2 : (Option Addr) → Nat → Nat → (Option Addr) → Nat → Nat → (Option Addr) → Nat → Nat → Int → Int → Heap → Out) (f : Nat → Option Value) (a29 : Option Addr) (l29 : Nat) (c29 : Nat) (a30 : Option Addr) (l30 : Nat) (c30 : Nat) (a31 : Option Addr) (l31 : Nat) (c31 : Nat) (n32 : Int) (n33 : Int) (b34 : Bool) (h35 : Heap) :
    execH Tryd.prog call ro (F26.H2 call lf ro kb2) (F26.U2 call lf ro kb2) (sub (codeOf Tryd.f26) [true, false, true, false, false, true, true, false, false, true, true, true]) (EF 36 (updF (updF (updF (updF (updF (updF f 0 (some (.slice a29 l29 c29))) 1 (some (.slice a30 l30 c30))) 7 (some (.slice a31 l31 c31))) 8 (some (.int .i64 n32))) 9 (some (.int .i64 n33))) 27 (some (.bool b34)))) h35 (F26.CJ6 call lf ro kb2) = F26.J6 call lf ro kb2 a29 l29 c29 a30 l30 c30 a31 l31 c31 n32 n33 b34 h35 := by kernel_rfl

theorem F26.CKJ6 (call : CT) (lf ro : Nat) (kb2 : (Option Addr) → Nat → Nat → (Option Addr) → Nat → Nat → (Option Addr) → Nat → Nat → Int → Int → Heap → Out) : KLe 36 (F26.CJ6 call lf ro kb2) (F26.KJ6 call lf ro kb2) :=
  (KLe.block (KLe.seq (H := (F26.H2 call lf ro kb2)) (J := (F26.U2 call lf ro kb2)) (KLe.refl _) (hd_free rfl)))

theorem F26.BJ6 (call : CT) (lf ro : Nat) (kb2 : (Option Addr) → Nat → Nat → (Option Addr) → Nat → Nat → (Option Addr) → Nat → Nat → Int → Int → Heap → Out) : ∀ e h, Shaped 36 e → LeO (F26.PJ6 (F26.J6 call lf ro kb2) e h) (execK Tryd.prog call lf ro (sub (codeOf Tryd.f26) [true, false, true, false, false, true, true, false, false, true, true, true]) e h (F26.KJ6 call lf ro kb2)) := by
    rintro e h ⟨f, rfl⟩
    unfold F26.PJ6
    refine getK_le fun w0 g0 => ?_
    rw [EF_get (by decide)] at g0
    refine sliceK_le fun a103 l103 c103 z167 => ?_
    subst z167
    refine getK_le fun w1 g1 => ?_
    rw [EF_get (by decide)] at g1
    refine sliceK_le fun a104 l104 c104 z168 => ?_
    subst z168
    refine getK_le fun w7 g7 => ?_
    rw [EF_get (by decide)] at g7
    refine sliceK_le fun a105 l105 c105 z169 => ?_
    subst z169
    refine getK_le fun w8 g8 => ?_
    rw [EF_get (by decide)] at g8
    refine intK_le fun n106 z170 => ?_
    subst z170
    refine getK_le fun w9 g9 => ?_
    rw [EF_get (by decide)] at g9
    refine intK_le fun n107 z171 => ?_
    subst z171
    refine getK_le fun w27 g27 => ?_
    rw [EF_get (by decide)] at g27
    refine boolK_le fun b108 z172 => ?_
    subst z172
    have hr := F26.RJ6 call lf ro kb2 f a103 l103 c103 a104 l104 c104 a105 l105 c105 n106 n107 b108 h
    rw [updF_same g0, updF_same g1, updF_same g7, updF_same g8, updF_same g9, updF_same g27] at hr
    exact cut_le (H := (F26.H2 call lf ro kb2)) (J := (F26.U2 call lf ro kb2)) (F26.CKJ6 call lf ro kb2) (hd_free rfl) hr

theorem F26.RJ3 (call : CT) (lf ro : Nat) (kb2 : (Option Addr) → Nat → Nat → (Option Addr) → Nat → Nat → (Option Addr) → Nat → Nat → Int → Int → Heap → Out) (f : Nat → Option Value) (a7 : Option Addr) (l7 : Nat) (c7 : Nat) (a8 : Option Addr) (l8 : Nat) (c8 : Nat) (a9 : Option Addr) (l9 : Nat) (c9 : Nat) (n10 : Int) (n11 : Int) (h12 : Heap) :
    execH Tryd.prog call ro (F26.H2 call lf ro kb2) (F26.U2 call lf ro kb2) (sub (codeOf Tryd.f26) [true, false, true, false, false, true, true]) (EF 36 (updF (updF (updF (updF (updF f 0 (some (.slice a7 l7 c7))) 1 (some (.slice a8 l8 c8))) 7 (some (.slice a9 l9 c9))) 8 (some (.int .i64 n10))) 9 (some (.int .i64 n11)))) h12 (F26.CJ3 call lf ro kb2) = F26.J3 call lf ro kb2 a7 l7 c7 a8 l8 c8 a9 l9 c9 n10 n11 h12 := by kernel_rfl

theorem F26.CKJ3 (call : CT) (lf ro : Nat) (kb2 : (Option Addr) → Nat → Nat → (Option Addr) → Nat → Nat → (Option Addr) → Nat → Nat → Int → Int → Heap → Out) : KLe 36 (F26.CJ3 call lf ro kb2) (F26.KJ3 call lf ro kb2) :=
  (KLe.refl _)

theorem F26.BJ3 (call : CT) (lf ro : Nat) (kb2 : (Option Addr) → Nat → Nat → (Option Addr) → Nat → Nat → (Option Addr) → Nat → Nat → Int → Int → Heap → Out) : ∀ e h, Shaped 36 e → LeO (F26.PJ3 (F26.J3 call lf ro kb2) e h) (execK Tryd.prog call lf ro (sub (codeOf Tryd.f26) [true, false, true, false, false, true, true]) e h (F26.KJ3 call lf ro kb2)) := by
    rintro e h ⟨f, rfl⟩
    unfold F26.PJ3
    refine getK_le fun w0 g0 => ?_
    rw [EF_get (by decide)] at g0
    refine sliceK_le fun a157 l157 c157 z179 => ?_
    subst z179
    refine getK_le fun w1 g1 => ?_
    rw [EF_get (by decide)] at g1
    refine sliceK_le fun a158 l158 c158 z180 => ?_
    subst z180
    refine getK_le fun w7 g7 => ?_
    rw [EF_get (by decide)] at g7
    refine sliceK_le fun a159 l159 c159 z181 => ?_
    subst z181
    refine getK_le fun w8 g8 => ?_
    rw [EF_get (by decide)] at g8
    refine intK_le fun n160 z182 => ?_
    subst z182
    refine getK_le fun w9 g9 => ?_
    rw [EF_get (by decide)] at g9
    refine intK_le fun n161 z183 => ?_
    subst z183
    have hr := F26.RJ3 call lf ro kb2 f a157 l157 c157 a158 l158 c158 a159 l159 c159 n160 n161 h
    rw [updF_same g0, updF_same g1, updF_same g7, updF_same g8, updF_same g9] at hr
    exact cut_le (H := (F26.H2 call lf ro kb2)) (J := (F26.U2 call lf ro kb2)) (F26.CKJ3 call lf ro kb2) ⟨⟨(hd_free rfl), ⟨(hd_free rfl), ⟨(hd_free rfl), (fun e h hs => F26.BJ6 call lf ro kb2 e h hs)⟩⟩⟩, (hd_free rfl)⟩ hr

theorem F26.R2 (call : CT) (lf ro : Nat) (n : Nat) (f : Nat → Option Value) (a1 : Option Addr) (l1 : Nat) (c1 : Nat) (a2 : Option Addr) (l2 : Nat) (c2 : Nat) (a3 : Option Addr) (l3 : Nat) (c3 : Nat) (n4 : Int) (n5 : Int) (h6 : Heap) :
    execH Tryd.prog call ro (F26.H2 call lf ro (F26.L2 call lf ro n)) (F26.U2 call lf ro (F26.L2 call lf ro n)) (sub (codeOf Tryd.f26) [true, false, true, false, false]) (EF 36 (updF (updF (updF (updF (updF f 0 (some (.slice a1 l1 c1))) 1 (some (.slice a2 l2 c2))) 7 (some (.slice a3 l3 c3))) 8 (some (.int .i64 n4))) 9 (some (.int .i64 n5)))) h6 (outK (F26.P2 (F26.L2 call lf ro n)) (fun i e h => F26.C2 call lf ro (.exit i e h)) (fun e h => F26.C2 call lf ro (.ret e h))) = F26.L2 call lf ro (n + 1) a1 l1 c1 a2 l2 c2 a3 l3 c3 n4 n5 h6 := by kernel_rfl

theorem F26.CK2 (call : CT) (lf ro : Nat) : KLe 36 (F26.C2 call lf ro) (F26.K2 call lf ro) :=
  (KLe.block (KLe.seq (H := (F26.Ht call lf ro)) (J := (F26.Ut call lf ro)) (KLe.refl _) (hd_free rfl)))

theorem F26.B2 (call : CT) (lf ro : Nat) : ∀ n e h, Shaped 36 e → LeO (F26.P2 (F26.L2 call lf ro n) e h) (loopK (execK Tryd.prog call lf ro (sub (codeOf Tryd.f26) [true, false, true, false, false])) n e h (F26.K2 call lf ro)) := by
  refine loop_le (fun e h k k' hs hk => execK_mono _ e h k k' hs hk) (kb := fun n => F26.P2 (F26.L2 call lf ro n)) (kx := fun i e h => F26.C2 call lf ro (.exit i e h)) (kr := fun e h => F26.C2 call lf ro (.ret e h)) ?_ ?_ (fun i e h hs => (F26.CK2 call lf ro).exit i e h hs) (fun e h hs => (F26.CK2 call lf ro).ret e h hs)
  · rintro e h ⟨f, rfl⟩
    unfold F26.P2
    refine getK_le fun w0 g0 => ?_
    rw [EF_get (by decide)] at g0
    refine sliceK_le fun a162 l162 c162 z189 => ?_
    subst z189
    refine getK_le fun w1 g1 => ?_
    rw [EF_get (by decide)] at g1
    refine sliceK_le fun a163 l163 c163 z190 => ?_
    subst z190
    refine getK_le fun w7 g7 => ?_
    rw [EF_get (by decide)] at g7
    refine sliceK_le fun a164 l164 c164 z191 => ?_
    subst z191
    refine getK_le fun w8 g8 => ?_
    rw [EF_get (by decide)] at g8
    refine intK_le fun n165 z192 => ?_
    subst z192
    refine getK_le fun w9 g9 => ?_
    rw [EF_get (by decide)] at g9
    refine intK_le fun n166 z193 => ?_
    subst z193
    exact LeO.refl _
  · rintro n e h ⟨f, rfl⟩
    unfold F26.P2
    refine getK_le fun w0 g0 => ?_
    rw [EF_get (by decide)] at g0
    refine sliceK_le fun a162 l162 c162 z194 => ?_
    subst z194
    refine getK_le fun w1 g1 => ?_
    rw [EF_get (by decide)] at g1
    refine sliceK_le fun a163 l163 c163 z195 => ?_
    subst z195
    refine getK_le fun w7 g7 => ?_
    rw [EF_get (by decide)] at g7
    refine sliceK_le fun a164 l164 c164 z196 => ?_
    subst z196
    refine getK_le fun w8 g8 => ?_
    rw [EF_get (by decide)] at g8
    refine intK_le fun n165 z197 => ?_
    subst z197
    refine getK_le fun w9 g9 => ?_
    rw [EF_get (by decide)] at g9
    refine intK_le fun n166 z198 => ?_
    subst z198
    have hr := F26.R2 call lf ro n f a162 l162 c162 a163 l163 c163 a164 l164 c164 n165 n166 h
    rw [updF_same g0, updF_same g1, updF_same g7, updF_same g8, updF_same g9] at hr
    exact round_le (H := (F26.H2 call lf ro (F26.L2 call lf ro n))) (J := (F26.U2 call lf ro (F26.L2 call lf ro n))) ⟨(hd_free rfl), ⟨(hd_free rfl), (fun e h hs => F26.BJ3 call lf ro (F26.L2 call lf ro n) e h hs)⟩⟩ hr

theorem F26.le (call : CT) (lf ro : Nat) (ax0 : Option Addr) (lx0 : Nat) (cx0 : Nat) (ax1 : Option Addr) (lx1 : Nat) (cx1 : Nat) (h : Heap) : LeO (F26.t call lf ro ax0 lx0 cx0 ax1 lx1 cx1 h) (bodyK Tryd.prog call lf ro Tryd.f26 [.slice ax0 lx0 cx0, .slice ax1 lx1 cx1] h) :=
  body_le (c := codeOf Tryd.f26) (H := F26.Ht call lf ro) (J := F26.Ut call lf ro) rfl (Nat.le_of_ble_eq_true rfl) ⟨(hd_free rfl), ⟨⟨(hd_free rfl), (fun e h hs => F26.B2 call lf ro  lf e h hs)⟩, (hd_free rfl)⟩⟩ (by kernel_rfl)

/-! ### barscan/netpbm.packed: function 27 -/

noncomputable def F27.J7 (call : CT) (lf ro : Nat) (kb2 : (Option Addr) → Nat → Nat → (Option Addr) → Nat → Nat → Int → Heap → Out) (kb6 : (Option Addr) → Nat → Nat → (Option Addr) → Nat → Nat → Int → Int → Int → Heap → Out) (a15 : Option Addr) (l15 : Nat) (c15 : Nat) (a16 : Option Addr) (l16 : Nat) (c16 : Nat) (n17 : Int) (n18 : Int) (n19 : Int) (h20 : Heap) : Out :=
  letJ (fun (n237 : Int) (h238 : Heap) =>
  (kb6 a15 l15 c15 a16 l16 c16 n17 n237 (IntKind.i64.wrap (n19 + 1)) h238)) fun j239 =>
  letJ (fun (b245 : Bool) (h246 : Heap) =>
  (ifK b245 (j239 (bOr .u8 (IntKind.u8.wrap (n18 * 2)) 1) h246) (j239 (IntKind.u8.wrap (n18 * 2)) h246))) fun j247 =>
  ifK (decide (IntKind.i64.wrap (n17 + n19) < (l16 : Int))) (bindO (idxO Tryd.prog 22 (.slice a16 l16 c16) (.int .i64 (IntKind.i64.wrap (n17 + n19))) h20) fun v248 h249 =>
  bindO (loadO Tryd.prog 5 v248 h249) fun v250 h251 =>
  intK .u8 v250 fun n252 =>
  j247 (n252 == 0) h251) (j247 false h20)

noncomputable def F27.PJ7 (kb : (Option Addr) → Nat → Nat → (Option Addr) → Nat → Nat → Int → Int → Int → Heap → Out) (e : Env) (h : Heap) : Out :=
  getK (e.get 0) fun w0 =>
  sliceK w0 fun a253 l253 c253 =>
  getK (e.get 1) fun w1 =>
  sliceK w1 fun a254 l254 c254 =>
  getK (e.get 5) fun w5 =>
  intK .i64 w5 fun n255 =>
  getK (e.get 6) fun w6 =>
  intK .u8 w6 fun n256 =>
  getK (e.get 14) fun w14 =>
  intK .i64 w14 fun n257 =>
  kb a253 l253 c253 a254 l254 c254 n255 n256 n257 h

noncomputable def F27.L6 (call : CT) (lf ro : Nat) (kb2 : (Option Addr) → Nat → Nat → (Option Addr) → Nat → Nat → Int → Heap → Out) : Nat → (Option Addr) → Nat → Nat → (Option Addr) → Nat → Nat → Int → Int → Int → Heap → Out
  | 0, _, _, _, _, _, _, _, _, _, _ => .fail
  | n + 1, a9, l9, c9, a10, l10, c10, n11, n12, n13, h14 =>
  ifK (decide (n13 < 8)) (F27.J7 call lf ro kb2 (F27.L6 call lf ro kb2 n) a9 l9 c9 a10 l10 c10 n11 n12 n13 h14) (pushJ h14 1 [.int .u8 n12] fun h286 =>
  bindO (appO Tryd.prog ro 22 22 (.slice a9 l9 c9) (.slice (some ⟨h14.next, 0, none⟩) 1 1) h286) fun v287 h288 =>
  sliceK v287 fun a289 l289 c289 =>
  kb2 a289 l289 c289 a10 l10 c10 (IntKind.i64.wrap (n11 + 8)) h288)

noncomputable def F27.P6 (kb : (Option Addr) → Nat → Nat → (Option Addr) → Nat → Nat → Int → Int → Int → Heap → Out) (e : Env) (h : Heap) : Out :=
  getK (e.get 0) fun w0 =>
  sliceK w0 fun a290 l290 c290 =>
  getK (e.get 1) fun w1 =>
  sliceK w1 fun a291 l291 c291 =>
  getK (e.get 5) fun w5 =>
  intK .i64 w5 fun n292 =>
  getK (e.get 6) fun w6 =>
  intK .u8 w6 fun n293 =>
  getK (e.get 14) fun w14 =>
  intK .i64 w14 fun n294 =>
  kb a290 l290 c290 a291 l291 c291 n292 n293 n294 h

noncomputable def F27.J4 (call : CT) (lf ro : Nat) (kb2 : (Option Addr) → Nat → Nat → (Option Addr) → Nat → Nat → Int → Heap → Out) (a5 : Option Addr) (l5 : Nat) (c5 : Nat) (a6 : Option Addr) (l6 : Nat) (c6 : Nat) (n7 : Int) (h8 : Heap) : Out :=
  F27.L6 call lf ro kb2 lf a5 l5 c5 a6 l6 c6 n7 0 0 h8

noncomputable def F27.PJ4 (kb : (Option Addr) → Nat → Nat → (Option Addr) → Nat → Nat → Int → Heap → Out) (e : Env) (h : Heap) : Out :=
  getK (e.get 0) fun w0 =>
  sliceK w0 fun a295 l295 c295 =>
  getK (e.get 1) fun w1 =>
  sliceK w1 fun a296 l296 c296 =>
  getK (e.get 5) fun w5 =>
  intK .i64 w5 fun n297 =>
  kb a295 l295 c295 a296 l296 c296 n297 h

noncomputable def F27.L2 (call : CT) (lf ro : Nat) : Nat → (Option Addr) → Nat → Nat → (Option Addr) → Nat → Nat → Int → Heap → Out
  | 0, _, _, _, _, _, _, _, _ => .fail
  | n + 1, a1, l1, c1, a2, l2, c2, n3, h4 =>
  ifK (decide (n3 < (l2 : Int))) (F27.J4 call lf ro (F27.L2 call lf ro n) a1 l1 c1 a2 l2 c2 n3 h4) (Out.ok (.slice a1 l1 c1) h4)

noncomputable def F27.P2 (kb : (Option Addr) → Nat → Nat → (Option Addr) → Nat → Nat → Int → Heap → Out) (e : Env) (h : Heap) : Out :=
  getK (e.get 0) fun w0 =>
  sliceK w0 fun a298 l298 c298 =>
  getK (e.get 1) fun w1 =>
  sliceK w1 fun a299 l299 c299 =>
  getK (e.get 5) fun w5 =>
  intK .i64 w5 fun n300 =>
  kb a298 l298 c298 a299 l299 c299 n300 h

noncomputable def F27.t (call : CT) (lf ro : Nat) (ax0 : Option Addr) (lx0 : Nat) (cx0 : Nat) (ax1 : Option Addr) (lx1 : Nat) (cx1 : Nat) (h : Heap) : Out :=
  F27.L2 call lf ro lf ax0 lx0 cx0 ax1 lx1 cx1 0 h

noncomputable def F27.Ht (call : CT) (lf ro : Nat) (i : Nat) (e : Env) (h : Heap) : Out := ifK (i == 2) (F27.P2 (F27.L2 call lf ro lf) e h) (.fail)
noncomputable def F27.Ut (call : CT) (lf ro : Nat) (i : Nat) : Option (Env → Heap → Out) := none

noncomputable def F27.H6 (call : CT) (lf ro : Nat) (kb2 : (Option Addr) → Nat → Nat → (Option Addr) → Nat → Nat → Int → Heap → Out) (kb6 : (Option Addr) → Nat → Nat → (Option Addr) → Nat → Nat → Int → Int → Int → Heap → Out) (i : Nat) (e : Env) (h : Heap) : Out := ifK (i == 6) (F27.P6 (F27.L6 call lf ro kb2 lf) e h) (ifK (i == 2) (F27.P2 (F27.L2 call lf ro lf) e h) (.fail))
noncomputable def F27.U6 (call : CT) (lf ro : Nat) (kb2 : (Option Addr) → Nat → Nat → (Option Addr) → Nat → Nat → Int → Heap → Out) (kb6 : (Option Addr) → Nat → Nat → (Option Addr) → Nat → Nat → Int → Int → Int → Heap → Out) (i : Nat) : Option (Env → Heap → Out) := ifJ (i == 7) (some (F27.PJ7 (F27.J7 call lf ro kb2 kb6))) (ifJ (i == 4) (some (F27.PJ4 (F27.J4 call lf ro kb2))) (none))

noncomputable def F27.H2 (call : CT) (lf ro : Nat) (kb2 : (Option Addr) → Nat → Nat → (Option Addr) → Nat → Nat → Int → Heap → Out) (i : Nat) (e : Env) (h : Heap) : Out := ifK (i == 6) (F27.P6 (F27.L6 call lf ro kb2 lf) e h) (ifK (i == 2) (F27.P2 (F27.L2 call lf ro lf) e h) (.fail))
noncomputable def F27.U2 (call : CT) (lf ro : Nat) (kb2 : (Option Addr) → Nat → Nat → (Option Addr) → Nat → Nat → Int → Heap → Out) (i : Nat) : Option (Env → Heap → Out) := ifJ (i == 4) (some (F27.PJ4 (F27.J4 call lf ro kb2))) (none)

noncomputable def F27.C2 (call : CT) (lf ro : Nat) : COut → Out := blockK 0 (seqH Tryd.prog call ro (F27.Ht call lf ro) (F27.Ut call lf ro) (sub (codeOf Tryd.f27) [true, true]) (endK Tryd.prog Tryd.f27))

noncomputable def F27.K2 (call : CT) (lf ro : Nat) : COut → Out := blockK 0 (seqK Tryd.prog call lf ro (sub (codeOf Tryd.f27) [true, true]) (endK Tryd.prog Tryd.f27))

noncomputable def F27.C6 (call : CT) (lf ro : Nat) (kb2 : (Option Addr) → Nat → Nat → (Option Addr) → Nat → Nat → Int → Heap → Out) : COut → Out := blockK 2 (seqH Tryd.prog call ro (F27.H2 call lf ro kb2) (F27.U2 call lf ro kb2) (sub (codeOf Tryd.f27) [true, false, true, false, false, true, false, false, true, true]) (blockK 1 (seqH Tryd.prog call ro (F27.H2 call lf ro kb2) (F27.U2 call lf ro kb2) (sub (codeOf Tryd.f27) [true, false, true, false, false, true, true]) (outK (F27.P2 kb2) (fun i e h => F27.C2 call lf ro (.exit i e h)) (fun e h => F27.C2 call lf ro (.ret e h))))))

noncomputable def F27.K6 (call : CT) (lf ro : Nat) (kb2 : (Option Addr) → Nat → Nat → (Option Addr) → Nat → Nat → Int → Heap → Out) : COut → Out := blockK 2 (seqK Tryd.prog call lf ro (sub (codeOf Tryd.f27) [true, false, true, false, false, true, false, false, true, true]) (blockK 1 (seqK Tryd.prog call lf ro (sub (codeOf Tryd.f27) [true, false, true, false, false, true, true]) (outK (F27.P2 kb2) (fun i e h => F27.C2 call lf ro (.exit i e h)) (fun e h => F27.C2 call lf ro (.ret e h))))))

noncomputable def F27.CJ4 (call : CT) (lf ro : Nat) (kb2 : (Option Addr) → Nat → Nat → (Option Addr) → Nat → Nat → Int → Heap → Out) : COut → Out := outK (F27.P2 kb2) (fun i e h => F27.C2 call lf ro (.exit i e h)) (fun e h => F27.C2 call lf ro (.ret e h))

noncomputable def F27.KJ4 (call : CT) (lf ro : Nat) (kb2 : (Option Addr) → Nat → Nat → (Option Addr) → Nat → Nat → Int → Heap → Out) : COut → Out := outK (F27.P2 kb2) (fun i e h => F27.C2 call lf ro (.exit i e h)) (fun e h => F27.C2 call lf ro (.ret e h))

noncomputable def F27.CJ7 (call : CT) (lf ro : Nat) (kb2 : (Option Addr) → Nat → Nat → (Option Addr) → Nat → Nat → Int → Heap → Out) (kb6 : (Option Addr) → Nat → Nat → (Option Addr) → Nat → Nat → Int → Int → Int → Heap → Out) : COut → Out := outK (F27.P6 kb6) (fun i e h => F27.C6 call lf ro kb2 (.exit i e h)) (fun e h => F27.C6 call lf ro kb2 (.ret e h))

noncomputable def F27.KJ7 (call : CT) (lf ro : Nat) (kb2 : (Option Addr) → Nat → Nat → (Option Addr) → Nat → Nat → Int → Heap → Out) (kb6 : (Option Addr) → Nat → Nat → (Option Addr) → Nat → Nat → Int → Int → Int → Heap → Out) : COut → Out := outK (F27.P6 kb6) (fun i e h => F27.C6 call lf ro kb2 (.exit i e h)) (fun e h => F27.C6 call lf ro kb2 (.ret e h))

theorem F27.RJ7 (call : CT) (lf ro : Nat) (kb2 : (Option Addr) → Nat → Nat → (Option Addr) → Nat → Nat → Int → Heap → Out) (kb6 : (Option Addr) → Nat → Nat → (Option Addr) → Nat → Nat → Int → Int → Int → Heap → Out) (f : Nat → Option Value) (a15 : Option Addr) (l15 : Nat) (c15 : Nat) (a16 : Option Addr) (l16 : Nat) (c16 : Nat) (n17 : Int) (n18 : Int) (n19 : Int) (h20 : Heap) :
    execH Tryd.prog call ro (F27.H6 call lf ro kb2 kb6) (F27.U6 call lf ro kb2 kb6) (sub (codeOf Tryd.f27) [true, false, true, false, false, true, false, false, true, false, true, false, false, true, true]) (EF 42 (updF (updF (updF (updF (updF f 0 (some (.slice a15 l15 c15))) 1 (some (.slice a16 l16 c16))) 5 (some (.int .i64 n17))) 6 (some (.int .u8 n18))) 14 (some (.int .i64 n19)))) h20 (F27.CJ7 call lf ro kb2 kb6) = F27.J7 call lf ro kb2 kb6 a15 l15 c15 a16 l16 c16 n17 n18 n19 h20 := by kernel_rfl

theorem F27.CKJ7 (call : CT) (lf ro : Nat) (kb2 : (Option Addr) → Nat → Nat → (Option Addr) → Nat → Nat → Int → Heap → Out) (kb6 : (Option Addr) → Nat → Nat → (Option Addr) → Nat → Nat → Int → Int → Int → Heap → Out) : KLe 42 (F27.CJ7 call lf ro kb2 kb6) (F27.KJ7 call lf ro kb2 kb6) :=
  (KLe.refl _)

theorem F27.BJ7 (call : CT) (lf ro : Nat) (kb2 : (Option Addr) → Nat → Nat → (Option Addr) → Nat → Nat → Int → Heap → Out) (kb6 : (Option Addr) → Nat → Nat → (Option Addr) → Nat → Nat → Int → Int → Int → Heap → Out) : ∀ e h, Shaped 42 e → LeO (F27.PJ7 (F27.J7 call lf ro kb2 kb6) e h) (execK Tryd.prog call lf ro (sub (codeOf Tryd.f27) [true, false, true, false, false, true, false, false, true, false, true, false, false, true, true]) e h (F27.KJ7 call lf ro kb2 kb6)) := by
    rintro e h ⟨f, rfl⟩
    unfold F27.PJ7
    refine getK_le fun w0 g0 => ?_
    rw [EF_get (by decide)] at g0
    refine sliceK_le fun a253 l253 c253 z301 => ?_
    subst z301
    refine getK_le fun w1 g1 => ?_
    rw [EF_get (by decide)] at g1
    refine sliceK_le fun a254 l254 c254 z302 => ?_
    subst z302
    refine getK_le fun w5 g5 => ?_
    rw [EF_get (by decide)] at g5
    refine intK_le fun n255 z303 => ?_
    subst z303
    refine getK_le fun w6 g6 => ?_
    rw [EF_get (by decide)] at g6
    refine intK_le fun n256 z304 => ?_
    subst z304
    refine getK_le fun w14 g14 => ?_
    rw [EF_get (by decide)] at g14
    refine intK_le fun n257 z305 => ?_
    subst z305
    have hr := F27.RJ7 call lf ro kb2 kb6 f a253 l253 c253 a254 l254 c254 n255 n256 n257 h
    rw [updF_same g0, updF_same g1, updF_same g5, updF_same g6, updF_same g14] at hr
    exact cut_le (H := (F27.H6 call lf ro kb2 kb6)) (J := (F27.U6 call lf ro kb2 kb6)) (F27.CKJ7 call lf ro kb2 kb6) (hd_free rfl) hr

theorem F27.R6 (call : CT) (lf ro : Nat) (kb2 : (Option Addr) → Nat → Nat → (Option Addr) → Nat → Nat → Int → Heap → Out) (n : Nat) (f : Nat → Option Value) (a9 : Option Addr) (l9 : Nat) (c9 : Nat) (a10 : Option Addr) (l10 : Nat) (c10 : Nat) (n11 : Int) (n12 : Int) (n13 : Int) (h14 : Heap) :
    execH Tryd.prog call ro (F27.H6 call lf ro kb2 (F27.L6 call lf ro kb2 n)) (F27.U6 call lf ro kb2 (F27.L6 call lf ro kb2 n)) (sub (codeOf Tryd.f27) [true, false, true, false, false, true, false, false, true, false, true, false, false]) (EF 42 (updF (updF (updF (updF (updF f 0 (some (.slice a9 l9 c9))) 1 (some (.slice a10 l10 c10))) 5 (some (.int .i64 n11))) 6 (some (.int .u8 n12))) 14 (some (.int .i64 n13)))) h14 (outK (F27.P6 (F27.L6 call lf ro kb2 n)) (fun i e h => F27.C6 call lf ro kb2 (.exit i e h)) (fun e h => F27.C6 call lf ro kb2 (.ret e h))) = F27.L6 call lf ro kb2 (n + 1) a9 l9 c9 a10 l10 c10 n11 n12 n13 h14 := by kernel_rfl

theorem F27.CK6 (call : CT) (lf ro : Nat) (kb2 : (Option Addr) → Nat → Nat → (Option Addr) → Nat → Nat → Int → Heap → Out) : KLe 42 (F27.C6 call lf ro kb2) (F27.K6 call lf ro kb2) :=
  (KLe.block (KLe.seq (H := (F27.H2 call lf ro kb2)) (J := (F27.U2 call lf ro kb2)) (KLe.block (KLe.seq (H := (F27.H2 call lf ro kb2)) (J := (F27.U2 call lf ro kb2)) (KLe.refl _) (hd_free rfl))) (hd_free rfl)))

theorem F27.B6 (call : CT) (lf ro : Nat) (kb2 : (Option Addr) → Nat → Nat → (Option Addr) → Nat → Nat → Int → Heap → Out) : ∀ n e h, Shaped 42 e → LeO (F27.P6 (F27.L6 call lf ro kb2 n) e h) (loopK (execK Tryd.prog call lf ro (sub (codeOf Tryd.f27) [true, false, true, false, false, true, false, false, true, false, true, false, false])) n e h (F27.K6 call lf ro kb2)) := by
  refine loop_le (fun e h k k' hs hk => execK_mono _ e h k k' hs hk) (kb := fun n => F27.P6 (F27.L6 call lf ro kb2 n)) (kx := fun i e h => F27.C6 call lf ro kb2 (.exit i e h)) (kr := fun e h => F27.C6 call lf ro kb2 (.ret e h)) ?_ ?_ (fun i e h hs => (F27.CK6 call lf ro kb2).exit i e h hs) (fun e h hs => (F27.CK6 call lf ro kb2).ret e h hs)
  · rintro e h ⟨f, rfl⟩
    unfold F27.P6
    refine getK_le fun w0 g0 => ?_
    rw [EF_get (by decide)] at g0
    refine sliceK_le fun a290 l290 c290 z311 => ?_
    subst z311
    refine getK_le fun w1 g1 => ?_
    rw [EF_get (by decide)] at g1
    refine sliceK_le fun a291 l291 c291 z312 => ?_
    subst z312
    refine getK_le fun w5 g5 => ?_
    rw [EF_get (by decide)] at g5
    refine intK_le fun n292 z313 => ?_
    subst z313
    refine getK_le fun w6 g6 => ?_
    rw [EF_get (by decide)] at g6
    refine intK_le fun n293 z314 => ?_
    subst z314
    refine getK_le fun w14 g14 => ?_
    rw [EF_get (by decide)] at g14
    refine intK_le fun n294 z315 => ?_
    subst z315
    exact LeO.refl _
  · rintro n e h ⟨f, rfl⟩
    unfold F27.P6
    refine getK_le fun w0 g0 => ?_
    rw [EF_get (by decide)] at g0
    refine sliceK_le fun a290 l290 c290 z316 => ?_
    subst z316
    refine getK_le fun w1 g1 => ?_
    rw [EF_get (by decide)] at g1
    refine sliceK_le fun a291 l291 c291 z317 => ?_
    subst z317
    refine getK_le fun w5 g5 => ?_
    rw [EF_get (by decide)] at g5
    refine intK_le fun n292 z318 => ?_
    subst z318
    refine getK_le fun w6 g6 => ?_
    rw [EF_get (by decide)] at g6
    refine intK_le fun n293 z319 => ?_
    subst z319
    refine getK_le fun w14 g14 => ?_
    rw [EF_get (by decide)] at g14
    refine intK_le fun n294 z320 => ?_
    subst z320
    have hr := F27.R6 call lf ro kb2 n f a290 l290 c290 a291 l291 c291 n292 n293 n294 h
    rw [updF_same g0, updF_same g1, updF_same g5, updF_same g6, updF_same g14] at hr
    exact round_le (H := (F27.H6 call lf ro kb2 (F27.L6 call lf ro kb2 n))) (J := (F27.U6 call lf ro kb2 (F27.L6 call lf ro kb2 n))) ⟨(hd_free rfl), ⟨(hd_free rfl), (fun e h hs => F27.BJ7 call lf ro kb2 (F27.L6 call lf ro kb2 n) e h hs)⟩⟩ hr

theorem F27.RJ4 (call : CT) (lf ro : Nat) (kb2 : (Option Addr) → Nat → Nat → (Option Addr) → Nat → Nat → Int → Heap → Out) (f : Nat → Option Value) (a5 : Option Addr) (l5 : Nat) (c5 : Nat) (a6 : Option Addr) (l6 : Nat) (c6 : Nat) (n7 : Int) (h8 : Heap) :
    execH Tryd.prog call ro (F27.H2 call lf ro kb2) (F27.U2 call lf ro kb2) (sub (codeOf Tryd.f27) [true, false, true, false, false, true]) (EF 42 (updF (updF (updF f 0 (some (.slice a5 l5 c5))) 1 (some (.slice a6 l6 c6))) 5 (some (.int .i64 n7)))) h8 (F27.CJ4 call lf ro kb2) = F27.J4 call lf ro kb2 a5 l5 c5 a6 l6 c6 n7 h8 := by kernel_rfl

theorem F27.CKJ4 (call : CT) (lf ro : Nat) (kb2 : (Option Addr) → Nat → Nat → (Option Addr) → Nat → Nat → Int → Heap → Out) : KLe 42 (F27.CJ4 call lf ro kb2) (F27.KJ4 call lf ro kb2) :=
  (KLe.refl _)

theorem F27.BJ4 (call : CT) (lf ro : Nat) (kb2 : (Option Addr) → Nat → Nat → (Option Addr) → Nat → Nat → Int → Heap → Out) : ∀ e h, Shaped 42 e → LeO (F27.PJ4 (F27.J4 call lf ro kb2) e h) (execK Tryd.prog call lf ro (sub (codeOf Tryd.f27) [true, false, true, false, false, true]) e h (F27.KJ4 call lf ro kb2)) := by
    rintro e h ⟨f, rfl⟩
    unfold F27.PJ4
    refine getK_le fun w0 g0 => ?_
    rw [EF_get (by decide)] at g0
    refine sliceK_le fun a295 l295 c295 z321 => ?_
    subst z321
    refine getK_le fun w1 g1 => ?_
    rw [EF_get (by decide)] at g1
    refine sliceK_le fun a296 l296 c296 z322 => ?_
    subst z322
    refine getK_le fun w5 g5 => ?_
    rw [EF_get (by decide)] at g5
    refine intK_le fun n297 z323 => ?_
    subst z323
    have hr := F27.RJ4 call lf ro kb2 f a295 l295 c295 a296 l296 c296 n297 h
    rw [updF_same g0, updF_same g1, updF_same g5] at hr
    exact cut_le (H := (F27.H2 call lf ro kb2)) (J := (F27.U2 call lf ro kb2)) (F27.CKJ4 call lf ro kb2) ⟨⟨(hd_free rfl), ⟨⟨(hd_free rfl), (fun e h hs => F27.B6 call lf ro kb2 lf e h hs)⟩, (hd_free rfl)⟩⟩, (hd_free rfl)⟩ hr

theorem F27.R2 (call : CT) (lf ro : Nat) (n : Nat) (f : Nat → Option Value) (a1 : Option Addr) (l1 : Nat) (c1 : Nat) (a2 : Option Addr) (l2 : Nat) (c2 : Nat) (n3 : Int) (h4 : Heap) :
    execH Tryd.prog call ro (F27.H2 call lf ro (F27.L2 call lf ro n)) (F27.U2 call lf ro (F27.L2 call lf ro n)) (sub (codeOf Tryd.f27) [true, false, true, false, false]) (EF 42 (updF (updF (updF f 0 (some (.slice a1 l1 c1))) 1 (some (.slice a2 l2 c2))) 5 (some (.int .i64 n3)))) h4 (outK (F27.P2 (F27.L2 call lf ro n)) (fun i e h => F27.C2 call lf ro (.exit i e h)) (fun e h => F27.C2 call lf ro (.ret e h))) = F27.L2 call lf ro (n + 1) a1 l1 c1 a2 l2 c2 n3 h4 := by kernel_rfl

theorem F27.CK2 (call : CT) (lf ro : Nat) : KLe 42 (F27.C2 call lf ro) (F27.K2 call lf ro) :=
  (KLe.block (KLe.seq (H := (F27.Ht call lf ro)) (J := (F27.Ut call lf ro)) (KLe.refl _) (hd_free rfl)))

theorem F27.B2 (call : CT) (lf ro : Nat) : ∀ n e h, Shaped 42 e → LeO (F27.P2 (F27.L2 call lf ro n) e h) (loopK (execK Tryd.prog call lf ro (sub (codeOf Tryd.f27) [true, false, true, false, false])) n e h (F27.K2 call lf ro)) := by
  refine loop_le (fun e h k k' hs hk => execK_mono _ e h k k' hs hk) (kb := fun n => F27.P2 (F27.L2 call lf ro n)) (kx := fun i e h => F27.C2 call lf ro (.exit i e h)) (kr := fun e h => F27.C2 call lf ro (.ret e h)) ?_ ?_ (fun i e h hs => (F27.CK2 call lf ro).exit i e h hs) (fun e h hs => (F27.CK2 call lf ro).ret e h hs)
  · rintro e h ⟨f, rfl⟩
    unfold F27.P2
    refine getK_le fun w0 g0 => ?_
    rw [EF_get (by decide)] at g0
    refine sliceK_le fun a298 l298 c298 z327 => ?_
    subst z327
    refine getK_le fun w1 g1 => ?_
    rw [EF_get (by decide)] at g1
    refine sliceK_le fun a299 l299 c299 z328 => ?_
    subst z328
    refine getK_le fun w5 g5 => ?_
    rw [EF_get (by decide)] at g5
    refine intK_le fun n300 z329 => ?_
    subst z329
    exact LeO.refl _
  · rintro n e h ⟨f, rfl⟩
    unfold F27.P2
    refine getK_le fun w0 g0 => ?_
    rw [EF_get (by decide)] at g0
    refine sliceK_le fun a298 l298 c298 z330 => ?_
    subst z330
    refine getK_le fun w1 g1 => ?_
    rw [EF_get (by decide)] at g1
    refine sliceK_le fun a299 l299 c299 z331 => ?_
    subst z331
    refine getK_le fun w5 g5 => ?_
    rw [EF_get (by decide)] at g5
    refine intK_le fun n300 z332 => ?_
    subst z332
    have hr := F27.R2 call lf ro n f a298 l298 c298 a299 l299 c299 n300 h
    rw [updF_same g0, updF_same g1, updF_same g5] at hr
    exact round_le (H := (F27.H2 call lf ro (F27.L2 call lf ro n))) (J := (F27.U2 call lf ro (F27.L2 call lf ro n))) ⟨(hd_free rfl), (fun e h hs => F27.BJ4 call lf ro (F27.L2 call lf ro n) e h hs)⟩ hr

theorem F27.le (call : CT) (lf ro : Nat) (ax0 : Option Addr) (lx0 : Nat) (cx0 : Nat) (ax1 : Option Addr) (lx1 : Nat) (cx1 : Nat) (h : Heap) : LeO (F27.t call lf ro ax0 lx0 cx0 ax1 lx1 cx1 h) (bodyK Tryd.prog call lf ro Tryd.f27 [.slice ax0 lx0 cx0, .slice ax1 lx1 cx1] h) :=
  body_le (c := codeOf Tryd.f27) (H := F27.Ht call lf ro) (J := F27.Ut call lf ro) rfl (Nat.le_of_ble_eq_true rfl) ⟨(hd_free rfl), ⟨⟨(hd_free rfl), (fun e h hs => F27.B2 call lf ro  lf e h hs)⟩, (hd_free rfl)⟩⟩ (by kernel_rfl)

/-! ### barscan/barscanref31.CheckImage: function 28 -/

noncomputable def F28.t (call : CT) (lf ro : Nat) (x0_0 : Int) (x0_1 : Int) (ax0_2 : Option Addr) (lx0_2 : Nat) (cx0_2 : Nat) (h : Heap) : Out :=
  pushJ h 1 [.int .i64 x0_0, .int .i64 x0_1, .slice ax0_2 lx0_2 cx0_2] fun h2 =>
  bindO (loadO Tryd.prog 24 (.pointer (some ⟨h.next, 0, none⟩)) h2) fun v18 h19 =>
  aggK v18 fun q20 =>
  consK q20 fun x21 q22 =>
  intK .i64 x21 fun n23 =>
  consK q22 fun x24 q25 =>
  intK .i64 x24 fun n26 =>
  consK q25 fun x27 q28 =>
  sliceK x27 fun a29 l29 c29 =>
  nilK q28 <|
  bindO (call ro 42 [.agg #[.int .i64 n23, .int .i64 n26, .slice a29 l29 c29]] h19) fun v30 h31 =>
  boolK v30 fun b32 =>
  ifK (!b32) (Out.ok (.int .i64 1) h31) (Out.ok (.int .i64 0) h31)

noncomputable def F28.Ht (call : CT) (lf ro : Nat) (i : Nat) (e : Env) (h : Heap) : Out := .fail
noncomputable def F28.Ut (call : CT) (lf ro : Nat) (i : Nat) : Option (Env → Heap → Out) := none

theorem F28.le (call : CT) (lf ro : Nat) (x0_0 : Int) (x0_1 : Int) (ax0_2 : Option Addr) (lx0_2 : Nat) (cx0_2 : Nat) (h : Heap) : LeO (F28.t call lf ro x0_0 x0_1 ax0_2 lx0_2 cx0_2 h) (bodyK Tryd.prog call lf ro Tryd.f28 [.agg #[.int .i64 x0_0, .int .i64 x0_1, .slice ax0_2 lx0_2 cx0_2]] h) :=
  body_le (c := codeOf Tryd.f28) (H := F28.Ht call lf ro) (J := F28.Ut call lf ro) rfl (Nat.le_of_ble_eq_true rfl) (hd_free rfl) (by kernel_rfl)

/-! ### barscan/barscanref32.known: function 29 -/

noncomputable def F29.t (call : CT) (lf ro : Nat) (x0 : Int) (h : Heap) : Out :=
  letJ (fun (b4 : Bool) (h5 : Heap) =>
  (Out.ok (.bool b4) h5)) fun j6 =>
  bindO (call ro 32 [.int .i64 x0] h) fun v7 h8 =>
  boolK v7 fun b9 =>
  ifK b9 (j6 true h8) (ifK (x0 == 4) (j6 true h8) (j6 (x0 == 5) h8))

noncomputable def F29.Ht (call : CT) (lf ro : Nat) (i : Nat) (e : Env) (h : Heap) : Out := .fail
noncomputable def F29.Ut (call : CT) (lf ro : Nat) (i : Nat) : Option (Env → Heap → Out) := none

theorem F29.le (call : CT) (lf ro : Nat) (x0 : Int) (h : Heap) : LeO (F29.t call lf ro x0 h) (bodyK Tryd.prog call lf ro Tryd.f29 [.int .i64 x0] h) :=
  body_le (c := codeOf Tryd.f29) (H := F29.Ht call lf ro) (J := F29.Ut call lf ro) rfl (Nat.le_of_ble_eq_true rfl) (hd_free rfl) (by kernel_rfl)

/-! ### barscan/barscanref32.gray: function 30 -/

noncomputable def F30.t (call : CT) (lf ro : Nat) (x0 : Int) (h : Heap) : Out :=
  letJ (fun (b1 : Bool) =>
  (Out.ok (.bool b1) h)) fun j2 =>
  ifK (x0 == 2) (j2 true) (j2 (x0 == 5))

noncomputable def F30.Ht (call : CT) (lf ro : Nat) (i : Nat) (e : Env) (h : Heap) : Out := .fail
noncomputable def F30.Ut (call : CT) (lf ro : Nat) (i : Nat) : Option (Env → Heap → Out) := none

theorem F30.le (call : CT) (lf ro : Nat) (x0 : Int) (h : Heap) : LeO (F30.t call lf ro x0 h) (bodyK Tryd.prog call lf ro Tryd.f30 [.int .i64 x0] h) :=
  body_le (c := codeOf Tryd.f30) (H := F30.Ht call lf ro) (J := F30.Ut call lf ro) rfl (Nat.le_of_ble_eq_true rfl) (hd_free rfl) (by kernel_rfl)

/-! ### barscan/barscanref32.decimal: function 31 -/

noncomputable def F31.L2 (call : CT) (lf ro : Nat) : Nat → Int → ByteArray → Heap → Out
  | 0, _, _, _ => .fail
  | n + 1, n1, s2, h3 =>
  letJ ((pushJ h3 1 [.int .u8 (IntKind.u8.wrap (IntKind.i64.wrap (48 + n1)))] fun h26 =>
  bindO (conv Tryd.prog ro 22 9 (.slice (some ⟨h3.next, 0, none⟩) 1 1) h26) fun v27 h28 =>
  strK v27 fun s29 =>
  bindO (binO Tryd.prog .add 9 false (.string s29) (.string s2) h28) fun v30 h31 =>
  strK v30 fun s32 =>
  Out.ok (.string s32) h31)) fun j18 =>
  ifK (decide (n1 ≥ 10)) (pushJ h3 1 [.int .u8 (IntKind.u8.wrap (IntKind.i64.wrap (48 + (Int.tmod n1 10))))] fun h40 =>
  bindO (conv Tryd.prog ro 22 9 (.slice (some ⟨h3.next, 0, none⟩) 1 1) h40) fun v41 h42 =>
  strK v41 fun s43 =>
  bindO (binO Tryd.prog .add 9 false (.string s43) (.string s2) h42) fun v44 h45 =>
  strK v44 fun s46 =>
  F31.L2 call lf ro n (IntKind.i64.wrap (Int.tdiv n1 10)) s46 h45) (j18)

noncomputable def F31.P2 (kb : Int → ByteArray → Heap → Out) (e : Env) (h : Heap) : Out :=
  getK (e.get 0) fun w0 =>
  intK .i64 w0 fun n47 =>
  getK (e.get 3) fun w3 =>
  strK w3 fun s48 =>
  kb n47 s48 h

noncomputable def F31.t (call : CT) (lf ro : Nat) (x0 : Int) (h : Heap) : Out :=
  F31.L2 call lf ro lf x0 (⟨#[]⟩ : ByteArray) h

noncomputable def F31.Ht (call : CT) (lf ro : Nat) (i : Nat) (e : Env) (h : Heap) : Out := ifK (i == 2) (F31.P2 (F31.L2 call lf ro lf) e h) (.fail)
noncomputable def F31.Ut (call : CT) (lf ro : Nat) (i : Nat) : Option (Env → Heap → Out) := none

noncomputable def F31.H2 (call : CT) (lf ro : Nat) (kb2 : Int → ByteArray → Heap → Out) (i : Nat) (e : Env) (h : Heap) : Out := ifK (i == 2) (F31.P2 (F31.L2 call lf ro lf) e h) (.fail)
noncomputable def F31.U2 (call : CT) (lf ro : Nat) (kb2 : Int → ByteArray → Heap → Out) (i : Nat) : Option (Env → Heap → Out) := none

noncomputable def F31.C2 (call : CT) (lf ro : Nat) : COut → Out := blockK 0 (seqH Tryd.prog call ro (F31.Ht call lf ro) (F31.Ut call lf ro) (sub (codeOf Tryd.f31) [true, true, true]) (endK Tryd.prog Tryd.f31))

noncomputable def F31.K2 (call : CT) (lf ro : Nat) : COut → Out := blockK 0 (seqK Tryd.prog call lf ro (sub (codeOf Tryd.f31) [true, true, true]) (endK Tryd.prog Tryd.f31))

theorem F31.R2 (call : CT) (lf ro : Nat) (n : Nat) (f : Nat → Option Value) (n1 : Int) (s2 : ByteArray) (h3 : Heap) :
    execH Tryd.prog call ro (F31.H2 call lf ro (F31.L2 call lf ro n)) (F31.U2 call lf ro (F31.L2 call lf ro n)) (sub (codeOf Tryd.f31) [true, true, false, false, false]) (EF 23 (updF (updF f 0 (some (.int .i64 n1))) 3 (some (.string s2)))) h3 (outK (F31.P2 (F31.L2 call lf ro n)) (fun i e h => F31.C2 call lf ro (.exit i e h)) (fun e h => F31.C2 call lf ro (.ret e h))) = F31.L2 call lf ro (n + 1) n1 s2 h3 := by kernel_rfl

theorem F31.CK2 (call : CT) (lf ro : Nat) : KLe 23 (F31.C2 call lf ro) (F31.K2 call lf ro) :=
  (KLe.block (KLe.seq (H := (F31.Ht call lf ro)) (J := (F31.Ut call lf ro)) (KLe.refl _) (hd_free rfl)))

theorem F31.B2 (call : CT) (lf ro : Nat) : ∀ n e h, Shaped 23 e → LeO (F31.P2 (F31.L2 call lf ro n) e h) (loopK (execK Tryd.prog call lf ro (sub (codeOf Tryd.f31) [true, true, false, false, false])) n e h (F31.K2 call lf ro)) := by
  refine loop_le (fun e h k k' hs hk => execK_mono _ e h k k' hs hk) (kb := fun n => F31.P2 (F31.L2 call lf ro n)) (kx := fun i e h => F31.C2 call lf ro (.exit i e h)) (kr := fun e h => F31.C2 call lf ro (.ret e h)) ?_ ?_ (fun i e h hs => (F31.CK2 call lf ro).exit i e h hs) (fun e h hs => (F31.CK2 call lf ro).ret e h hs)
  · rintro e h ⟨f, rfl⟩
    unfold F31.P2
    refine getK_le fun w0 g0 => ?_
    rw [EF_get (by decide)] at g0
    refine intK_le fun n47 z49 => ?_
    subst z49
    refine getK_le fun w3 g3 => ?_
    rw [EF_get (by decide)] at g3
    refine strK_le fun s48 z50 => ?_
    subst z50
    exact LeO.refl _
  · rintro n e h ⟨f, rfl⟩
    unfold F31.P2
    refine getK_le fun w0 g0 => ?_
    rw [EF_get (by decide)] at g0
    refine intK_le fun n47 z51 => ?_
    subst z51
    refine getK_le fun w3 g3 => ?_
    rw [EF_get (by decide)] at g3
    refine strK_le fun s48 z52 => ?_
    subst z52
    have hr := F31.R2 call lf ro n f n47 s48 h
    rw [updF_same g0, updF_same g3] at hr
    exact round_le (H := (F31.H2 call lf ro (F31.L2 call lf ro n))) (J := (F31.U2 call lf ro (F31.L2 call lf ro n))) (hd_free rfl) hr

theorem F31.le (call : CT) (lf ro : Nat) (x0 : Int) (h : Heap) : LeO (F31.t call lf ro x0 h) (bodyK Tryd.prog call lf ro Tryd.f31 [.int .i64 x0] h) :=
  body_le (c := codeOf Tryd.f31) (H := F31.Ht call lf ro) (J := F31.Ut call lf ro) rfl (Nat.le_of_ble_eq_true rfl) ⟨(hd_free rfl), ⟨(hd_free rfl), ⟨(fun e h hs => F31.B2 call lf ro  lf e h hs), (hd_free rfl)⟩⟩⟩ (by kernel_rfl)

/-! ### barscan/barscanref32.plain: function 32 -/

noncomputable def F32.t (call : CT) (lf ro : Nat) (x0 : Int) (h : Heap) : Out :=
  letJ (fun (b1 : Bool) =>
  (Out.ok (.bool b1) h)) fun j2 =>
  ifK (x0 == 1) (j2 true) (j2 (x0 == 2))

noncomputable def F32.Ht (call : CT) (lf ro : Nat) (i : Nat) (e : Env) (h : Heap) : Out := .fail
noncomputable def F32.Ut (call : CT) (lf ro : Nat) (i : Nat) : Option (Env → Heap → Out) := none

theorem F32.le (call : CT) (lf ro : Nat) (x0 : Int) (h : Heap) : LeO (F32.t call lf ro x0 h) (bodyK Tryd.prog call lf ro Tryd.f32 [.int .i64 x0] h) :=
  body_le (c := codeOf Tryd.f32) (H := F32.Ht call lf ro) (J := F32.Ut call lf ro) rfl (Nat.le_of_ble_eq_true rfl) (hd_free rfl) (by kernel_rfl)

/-! ### barscan/barscanref32.line: function 33 -/

noncomputable def F33.J9 (call : CT) (lf ro : Nat) (kb3 : (Option Addr) → Nat → Nat → Int → ByteArray → Int → Heap → Out) (a20 : Option Addr) (l20 : Nat) (c20 : Nat) (n21 : Int) (s22 : ByteArray) (n23 : Int) (h24 : Heap) : Out :=
  letJ (fun (s133 : ByteArray) (h134 : Heap) =>
  (kb3 a20 l20 c20 n21 s133 (IntKind.i64.wrap (n23 + 1)) h134)) fun j135 =>
  ifK (n21 == 2) (bindO (idxO Tryd.prog 22 (.slice a20 l20 c20) (.int .i64 n23) h24) fun v217 h218 =>
  bindO (loadO Tryd.prog 5 v217 h218) fun v219 h220 =>
  intK .u8 v219 fun n221 =>
  bindO (call ro 31 [.int .i64 (IntKind.i64.wrap n221)] h220) fun v222 h223 =>
  strK v222 fun s224 =>
  bindO (binO Tryd.prog .add 9 false (.string s22) (.string s224) h223) fun v225 h226 =>
  strK v225 fun s227 =>
  j135 s227 h226) (bindO (idxO Tryd.prog 22 (.slice a20 l20 c20) (.int .i64 n23) h24) fun v233 h234 =>
  bindO (loadO Tryd.prog 5 v233 h234) fun v235 h236 =>
  intK .u8 v235 fun n237 =>
  ifK (n237 == 0) (bindO (binO Tryd.prog .add 9 true (.string s22) (.string (⟨#[49]⟩ : ByteArray)) h236) fun v238 h239 =>
  strK v238 fun s240 =>
  j135 s240 h239) (bindO (binO Tryd.prog .add 9 true (.string s22) (.string (⟨#[48]⟩ : ByteArray)) h236) fun v241 h242 =>
  strK v241 fun s243 =>
  j135 s243 h242))

noncomputable def F33.PJ9 (kb : (Option Addr) → Nat → Nat → Int → ByteArray → Int → Heap → Out) (e : Env) (h : Heap) : Out :=
  getK (e.get 0) fun w0 =>
  sliceK w0 fun a244 l244 c244 =>
  getK (e.get 1) fun w1 =>
  intK .i64 w1 fun n245 =>
  getK (e.get 5) fun w5 =>
  strK w5 fun s246 =>
  getK (e.get 6) fun w6 =>
  intK .i64 w6 fun n247 =>
  kb a244 l244 c244 n245 s246 n247 h

noncomputable def F33.J6 (call : CT) (lf ro : Nat) (kb3 : (Option Addr) → Nat → Nat → Int → ByteArray → Int → Heap → Out) (a11 : Option Addr) (l11 : Nat) (c11 : Nat) (n12 : Int) (s13 : ByteArray) (n14 : Int) (b15 : Bool) (h16 : Heap) : Out :=
  ifK b15 (bindO (binO Tryd.prog .add 9 true (.string s13) (.string (⟨#[10]⟩ : ByteArray)) h16) fun v269 h270 =>
  strK v269 fun s271 =>
  F33.J9 call lf ro kb3 a11 l11 c11 n12 s271 n14 h270) (letJ (fun (b272 : Bool) =>
  (ifK b272 (bindO (binO Tryd.prog .add 9 true (.string s13) (.string (⟨#[32]⟩ : ByteArray)) h16) fun v274 h275 =>
  strK v274 fun s276 =>
  F33.J9 call lf ro kb3 a11 l11 c11 n12 s276 n14 h275) (F33.J9 call lf ro kb3 a11 l11 c11 n12 s13 n14 h16))) fun j273 =>
  ifK (n12 == 2) (j273 (decide (n14 > 0))) (j273 false))

noncomputable def F33.PJ6 (kb : (Option Addr) → Nat → Nat → Int → ByteArray → Int → Bool → Heap → Out) (e : Env) (h : Heap) : Out :=
  getK (e.get 0) fun w0 =>
  sliceK w0 fun a277 l277 c277 =>
  getK (e.get 1) fun w1 =>
  intK .i64 w1 fun n278 =>
  getK (e.get 5) fun w5 =>
  strK w5 fun s279 =>
  getK (e.get 6) fun w6 =>
  intK .i64 w6 fun n280 =>
  getK (e.get 36) fun w36 =>
  boolK w36 fun b281 =>
  kb a277 l277 c277 n278 s279 n280 b281 h

noncomputable def F33.J5 (call : CT) (lf ro : Nat) (kb3 : (Option Addr) → Nat → Nat → Int → ByteArray → Int → Heap → Out) (a6 : Option Addr) (l6 : Nat) (c6 : Nat) (n7 : Int) (s8 : ByteArray) (n9 : Int) (h10 : Heap) : Out :=
  ifK (n7 == 1) (ifK (decide (n9 > 0)) (ifK ((Int.tmod n9 70) == 0) (F33.J6 call lf ro kb3 a6 l6 c6 n7 s8 n9 true h10) (ifK (n7 == 2) (ifK (decide (n9 > 0)) (F33.J6 call lf ro kb3 a6 l6 c6 n7 s8 n9 ((Int.tmod n9 17) == 0) h10) (F33.J6 call lf ro kb3 a6 l6 c6 n7 s8 n9 false h10)) (F33.J6 call lf ro kb3 a6 l6 c6 n7 s8 n9 false h10))) (ifK (n7 == 2) (ifK (decide (n9 > 0)) (F33.J6 call lf ro kb3 a6 l6 c6 n7 s8 n9 ((Int.tmod n9 17) == 0) h10) (F33.J6 call lf ro kb3 a6 l6 c6 n7 s8 n9 false h10)) (F33.J6 call lf ro kb3 a6 l6 c6 n7 s8 n9 false h10))) (ifK (n7 == 2) (ifK (decide (n9 > 0)) (F33.J6 call lf ro kb3 a6 l6 c6 n7 s8 n9 ((Int.tmod n9 17) == 0) h10) (F33.J6 call lf ro kb3 a6 l6 c6 n7 s8 n9 false h10)) (F33.J6 call lf ro kb3 a6 l6 c6 n7 s8 n9 false h10))

noncomputable def F33.PJ5 (kb : (Option Addr) → Nat → Nat → Int → ByteArray → Int → Heap → Out) (e : Env) (h : Heap) : Out :=
  getK (e.get 0) fun w0 =>
  sliceK w0 fun a282 l282 c282 =>
  getK (e.get 1) fun w1 =>
  intK .i64 w1 fun n283 =>
  getK (e.get 5) fun w5 =>
  strK w5 fun s284 =>
  getK (e.get 6) fun w6 =>
  intK .i64 w6 fun n285 =>
  kb a282 l282 c282 n283 s284 n285 h

noncomputable def F33.L3 (call : CT) (lf ro : Nat) : Nat → (Option Addr) → Nat → Nat → Int → ByteArray → Int → Heap → Out
  | 0, _, _, _, _, _, _, _ => .fail
  | n + 1, a1, l1, c1, n2, s3, n4, h5 =>
  ifK (decide (n4 < (l1 : Int))) (F33.J5 call lf ro (F33.L3 call lf ro n) a1 l1 c1 n2 s3 n4 h5) (bindO (binO Tryd.prog .add 9 true (.string s3) (.string (⟨#[10]⟩ : ByteArray)) h5) fun v289 h290 =>
  strK v289 fun s291 =>
  Out.ok (.string s291) h290)

noncomputable def F33.P3 (kb : (Option Addr) → Nat → Nat → Int → ByteArray → Int → Heap → Out) (e : Env) (h : Heap) : Out :=
  getK (e.get 0) fun w0 =>
  sliceK w0 fun a292 l292 c292 =>
  getK (e.get 1) fun w1 =>
  intK .i64 w1 fun n293 =>
  getK (e.get 5) fun w5 =>
  strK w5 fun s294 =>
  getK (e.get 6) fun w6 =>
  intK .i64 w6 fun n295 =>
  kb a292 l292 c292 n293 s294 n295 h

noncomputable def F33.t (call : CT) (lf ro : Nat) (ax0 : Option Addr) (lx0 : Nat) (cx0 : Nat) (x1 : Int) (h : Heap) : Out :=
  F33.L3 call lf ro lf ax0 lx0 cx0 x1 (⟨#[]⟩ : ByteArray) 0 h

noncomputable def F33.Ht (call : CT) (lf ro : Nat) (i : Nat) (e : Env) (h : Heap) : Out := ifK (i == 3) (F33.P3 (F33.L3 call lf ro lf) e h) (.fail)
noncomputable def F33.Ut (call : CT) (lf ro : Nat) (i : Nat) : Option (Env → Heap → Out) := none

noncomputable def F33.H3 (call : CT) (lf ro : Nat) (kb3 : (Option Addr) → Nat → Nat → Int → ByteArray → Int → Heap → Out) (i : Nat) (e : Env) (h : Heap) : Out := ifK (i == 3) (F33.P3 (F33.L3 call lf ro lf) e h) (.fail)
noncomputable def F33.U3 (call : CT) (lf ro : Nat) (kb3 : (Option Addr) → Nat → Nat → Int → ByteArray → Int → Heap → Out) (i : Nat) : Option (Env → Heap → Out) := ifJ (i == 9) (some (F33.PJ9 (F33.J9 call lf ro kb3))) (ifJ (i == 6) (some (F33.PJ6 (F33.J6 call lf ro kb3))) (ifJ (i == 5) (some (F33.PJ5 (F33.J5 call lf ro kb3))) (none)))

noncomputable def F33.C3 (call : CT) (lf ro : Nat) : COut → Out := blockK 0 (seqH Tryd.prog call ro (F33.Ht call lf ro) (F33.Ut call lf ro) (sub (codeOf Tryd.f33) [true, true, true]) (endK Tryd.prog Tryd.f33))

noncomputable def F33.K3 (call : CT) (lf ro : Nat) : COut → Out := blockK 0 (seqK Tryd.prog call lf ro (sub (codeOf Tryd.f33) [true, true, true]) (endK Tryd.prog Tryd.f33))

noncomputable def F33.CJ9 (call : CT) (lf ro : Nat) (kb3 : (Option Addr) → Nat → Nat → Int → ByteArray → Int → Heap → Out) : COut → Out := blockK 1 (seqH Tryd.prog call ro (F33.H3 call lf ro kb3) (F33.U3 call lf ro kb3) (sub (codeOf Tryd.f33) [true, true, false, true, false, false, true, true]) (outK (F33.P3 kb3) (fun i e h => F33.C3 call lf ro (.exit i e h)) (fun e h => F33.C3 call lf ro (.ret e h))))

noncomputable def F33.KJ9 (call : CT) (lf ro : Nat) (kb3 : (Option Addr) → Nat → Nat → Int → ByteArray → Int → Heap → Out) : COut → Out := blockK 1 (seqK Tryd.prog call lf ro (sub (codeOf Tryd.f33) [true, true, false, true, false, false, true, true]) (outK (F33.P3 kb3) (fun i e h => F33.C3 call lf ro (.exit i e h)) (fun e h => F33.C3 call lf ro (.ret e h))))

noncomputable def F33.CJ6 (call : CT) (lf ro : Nat) (kb3 : (Option Addr) → Nat → Nat → Int → ByteArray → Int → Heap → Out) : COut → Out := seqH Tryd.prog call ro (F33.H3 call lf ro kb3) (F33.U3 call lf ro kb3) (sub (codeOf Tryd.f33) [true, true, false, true, false, false, true, false, false, true]) (blockK 1 (seqH Tryd.prog call ro (F33.H3 call lf ro kb3) (F33.U3 call lf ro kb3) (sub (codeOf Tryd.f33) [true, true, false, true, false, false, true, true]) (outK (F33.P3 kb3) (fun i e h => F33.C3 call lf ro (.exit i e h)) (fun e h => F33.C3 call lf ro (.ret e h)))))

noncomputable def F33.KJ6 (call : CT) (lf ro : Nat) (kb3 : (Option Addr) → Nat → Nat → Int → ByteArray → Int → Heap → Out) : COut → Out := seqK Tryd.prog call lf ro (sub (codeOf Tryd.f33) [true, true, false, true, false, false, true, false, false, true]) (blockK 1 (seqK Tryd.prog call lf ro (sub (codeOf Tryd.f33) [true, true, false, true, false, false, true, true]) (outK (F33.P3 kb3) (fun i e h => F33.C3 call lf ro (.exit i e h)) (fun e h => F33.C3 call lf ro (.ret e h)))))

noncomputable def F33.CJ5 (call : CT) (lf ro : Nat) (kb3 : (Option Addr) → Nat → Nat → Int → ByteArray → Int → Heap → Out) : COut → Out := outK (F33.P3 kb3) (fun i e h => F33.C3 call lf ro (.exit i e h)) (fun e h => F33.C3 call lf ro (.ret e h))

noncomputable def F33.KJ5 (call : CT) (lf ro : Nat) (kb3 : (Option Addr) → Nat → Nat → Int → ByteArray → Int → Heap → Out) : COut → Out := outK (F33.P3 kb3) (fun i e h => F33.C3 call lf ro (.exit i e h)) (fun e h => F33.C3 call lf ro (.ret e h))

theorem F33.RJ9 (call : CT) (lf ro : Nat) (kb3 : (Option Addr) → Nat → Nat → Int → ByteArray → Int → Heap → Out) (f : Nat → Option Value) (a20 : Option Addr) (l20 : Nat) (c20 : Nat) (n21 : Int) (s22 : ByteArray) (n23 : Int) (h24 : Heap) :
    execH Tryd.prog call ro (F33.H3 call lf ro kb3) (F33.U3 call lf ro kb3) (sub (codeOf Tryd.f33) [true, true, false, true, false, false, true, false, false, true]) (EF 68 (updF (updF (updF (updF f 0 (some (.slice a20 l20 c20))) 1 (some (.int .i64 n21))) 5 (some (.string s22))) 6 (some (.int .i64 n23)))) h24 (F33.CJ9 call lf ro kb3) = F33.J9 call lf ro kb3 a20 l20 c20 n21 s22 n23 h24 := by kernel_rfl

theorem F33.CKJ9 (call : CT) (lf ro : Nat) (kb3 : (Option Addr) → Nat → Nat → Int → ByteArray → Int → Heap → Out) : KLe 68 (F33.CJ9 call lf ro kb3) (F33.KJ9 call lf ro kb3) :=
  (KLe.block (KLe.seq (H := (F33.H3 call lf ro kb3)) (J := (F33.U3 call lf ro kb3)) (KLe.refl _) (hd_free rfl)))

theorem F33.BJ9 (call : CT) (lf ro : Nat) (kb3 : (Option Addr) → Nat → Nat → Int → ByteArray → Int → Heap → Out) : ∀ e h, Shaped 68 e → LeO (F33.PJ9 (F33.J9 call lf ro kb3) e h) (execK Tryd.prog call lf ro (sub (codeOf Tryd.f33) [true, true, false, true, false, false, true, false, false, true]) e h (F33.KJ9 call lf ro kb3)) := by
    rintro e h ⟨f, rfl⟩
    unfold F33.PJ9
    refine getK_le fun w0 g0 => ?_
    rw [EF_get (by decide)] at g0
    refine sliceK_le fun a244 l244 c244 z296 => ?_
    subst z296
    refine getK_le fun w1 g1 => ?_
    rw [EF_get (by decide)] at g1
    refine intK_le fun n245 z297 => ?_
    subst z297
    refine getK_le fun w5 g5 => ?_
    rw [EF_get (by decide)] at g5
    refine strK_le fun s246 z298 => ?_
    subst z298
    refine getK_le fun w6 g6 => ?_
    rw [EF_get (by decide)] at g6
    refine intK_le fun n247 z299 => ?_
    subst z299
    have hr := F33.RJ9 call lf ro kb3 f a244 l244 c244 n245 s246 n247 h
    rw [updF_same g0, updF_same g1, updF_same g5, updF_same g6] at hr
    exact cut_le (H := (F33.H3 call lf ro kb3)) (J := (F33.U3 call lf ro kb3)) (F33.CKJ9 call lf ro kb3) (hd_free rfl) hr

theorem F33.RJ6 (call : CT) (lf ro : Nat) (kb3 : (Option Addr) → Nat → Nat → Int → ByteArray → Int → Heap → Out) (f : Nat → Option Value) (a11 : Option Addr) (l11 : Nat) (c11 : Nat) (n12 : Int) (s13 : ByteArray) (n14 : Int) (b15 : Bool) (h16 : Heap) :
    execH Tryd.prog call ro (F33.H3 call lf ro kb3) (F33.U3 call lf ro kb3) (sub (codeOf Tryd.f33) [true, true, false, true, false, false, true, false, false, false, true]) (EF 68 (updF (updF (updF (updF (updF f 0 (some (.slice a11 l11 c11))) 1 (some (.int .i64 n12))) 5 (some (.string s13))) 6 (some (.int .i64 n14))) 36 (some (.bool b15)))) h16 (F33.CJ6 call lf ro kb3) = F33.J6 call lf ro kb3 a11 l11 c11 n12 s13 n14 b15 h16 := by kernel_rfl

theorem F33.CKJ6 (call : CT) (lf ro : Nat) (kb3 : (Option Addr) → Nat → Nat → Int → ByteArray → Int → Heap → Out) : KLe 68 (F33.CJ6 call lf ro kb3) (F33.KJ6 call lf ro kb3) :=
  (KLe.seq (H := (F33.H3 call lf ro kb3)) (J := (F33.U3 call lf ro kb3)) (KLe.block (KLe.seq (H := (F33.H3 call lf ro kb3)) (J := (F33.U3 call lf ro kb3)) (KLe.refl _) (hd_free rfl))) (fun e h hs => F33.BJ9 call lf ro kb3 e h hs))

theorem F33.BJ6 (call : CT) (lf ro : Nat) (kb3 : (Option Addr) → Nat → Nat → Int → ByteArray → Int → Heap → Out) : ∀ e h, Shaped 68 e → LeO (F33.PJ6 (F33.J6 call lf ro kb3) e h) (execK Tryd.prog call lf ro (sub (codeOf Tryd.f33) [true, true, false, true, false, false, true, false, false, false, true]) e h (F33.KJ6 call lf ro kb3)) := by
    rintro e h ⟨f, rfl⟩
    unfold F33.PJ6
    refine getK_le fun w0 g0 => ?_
    rw [EF_get (by decide)] at g0
    refine sliceK_le fun a277 l277 c277 z304 => ?_
    subst z304
    refine getK_le fun w1 g1 => ?_
    rw [EF_get (by decide)] at g1
    refine intK_le fun n278 z305 => ?_
    subst z305
    refine getK_le fun w5 g5 => ?_
    rw [EF_get (by decide)] at g5
    refine strK_le fun s279 z306 => ?_
    subst z306
    refine getK_le fun w6 g6 => ?_
    rw [EF_get (by decide)] at g6
    refine intK_le fun n280 z307 => ?_
    subst z307
    refine getK_le fun w36 g36 => ?_
    rw [EF_get (by decide)] at g36
    refine boolK_le fun b281 z308 => ?_
    subst z308
    have hr := F33.RJ6 call lf ro kb3 f a277 l277 c277 n278 s279 n280 b281 h
    rw [updF_same g0, updF_same g1, updF_same g5, updF_same g6, updF_same g36] at hr
    exact cut_le (H := (F33.H3 call lf ro kb3)) (J := (F33.U3 call lf ro kb3)) (F33.CKJ6 call lf ro kb3) (hd_free rfl) hr

theorem F33.RJ5 (call : CT) (lf ro : Nat) (kb3 : (Option Addr) → Nat → Nat → Int → ByteArray → Int → Heap → Out) (f : Nat → Option Value) (a6 : Option Addr) (l6 : Nat) (c6 : Nat) (n7 : Int) (s8 : ByteArray) (n9 : Int) (h10 : Heap) :
    execH Tryd.prog call ro (F33.H3 call lf ro kb3) (F33.U3 call lf ro kb3) (sub (codeOf Tryd.f33) [true, true, false, true, false, false, true]) (EF 68 (updF (updF (updF (updF f 0 (some (.slice a6 l6 c6))) 1 (some (.int .i64 n7))) 5 (some (.string s8))) 6 (some (.int .i64 n9)))) h10 (F33.CJ5 call lf ro kb3) = F33.J5 call lf ro kb3 a6 l6 c6 n7 s8 n9 h10 := by kernel_rfl

theorem F33.CKJ5 (call : CT) (lf ro : Nat) (kb3 : (Option Addr) → Nat → Nat → Int → ByteArray → Int → Heap → Out) : KLe 68 (F33.CJ5 call lf ro kb3) (F33.KJ5 call lf ro kb3) :=
  (KLe.refl _)

theorem F33.BJ5 (call : CT) (lf ro : Nat) (kb3 : (Option Addr) → Nat → Nat → Int → ByteArray → Int → Heap → Out) : ∀ e h, Shaped 68 e → LeO (F33.PJ5 (F33.J5 call lf ro kb3) e h) (execK Tryd.prog call lf ro (sub (codeOf Tryd.f33) [true, true, false, true, false, false, true]) e h (F33.KJ5 call lf ro kb3)) := by
    rintro e h ⟨f, rfl⟩
    unfold F33.PJ5
    refine getK_le fun w0 g0 => ?_
    rw [EF_get (by decide)] at g0
    refine sliceK_le fun a282 l282 c282 z314 => ?_
    subst z314
    refine getK_le fun w1 g1 => ?_
    rw [EF_get (by decide)] at g1
    refine intK_le fun n283 z315 => ?_
    subst z315
    refine getK_le fun w5 g5 => ?_
    rw [EF_get (by decide)] at g5
    refine strK_le fun s284 z316 => ?_
    subst z316
    refine getK_le fun w6 g6 => ?_
    rw [EF_get (by decide)] at g6
    refine intK_le fun n285 z317 => ?_
    subst z317
    have hr := F33.RJ5 call lf ro kb3 f a282 l282 c282 n283 s284 n285 h
    rw [updF_same g0, updF_same g1, updF_same g5, updF_same g6] at hr
    exact cut_le (H := (F33.H3 call lf ro kb3)) (J := (F33.U3 call lf ro kb3)) (F33.CKJ5 call lf ro kb3) ⟨⟨⟨(hd_free rfl), (fun e h hs => F33.BJ6 call lf ro kb3 e h hs)⟩, (fun e h hs => F33.BJ9 call lf ro kb3 e h hs)⟩, (hd_free rfl)⟩ hr

theorem F33.R3 (call : CT) (lf ro : Nat) (n : Nat) (f : Nat → Option Value) (a1 : Option Addr) (l1 : Nat) (c1 : Nat) (n2 : Int) (s3 : ByteArray) (n4 : Int) (h5 : Heap) :
    execH Tryd.prog call ro (F33.H3 call lf ro (F33.L3 call lf ro n)) (F33.U3 call lf ro (F33.L3 call lf ro n)) (sub (codeOf Tryd.f33) [true, true, false, true, false, false]) (EF 68 (updF (updF (updF (updF f 0 (some (.slice a1 l1 c1))) 1 (some (.int .i64 n2))) 5 (some (.string s3))) 6 (some (.int .i64 n4)))) h5 (outK (F33.P3 (F33.L3 call lf ro n)) (fun i e h => F33.C3 call lf ro (.exit i e h)) (fun e h => F33.C3 call lf ro (.ret e h))) = F33.L3 call lf ro (n + 1) a1 l1 c1 n2 s3 n4 h5 := by kernel_rfl

theorem F33.CK3 (call : CT) (lf ro : Nat) : KLe 68 (F33.C3 call lf ro) (F33.K3 call lf ro) :=
  (KLe.block (KLe.seq (H := (F33.Ht call lf ro)) (J := (F33.Ut call lf ro)) (KLe.refl _) (hd_free rfl)))

theorem F33.B3 (call : CT) (lf ro : Nat) : ∀ n e h, Shaped 68 e → LeO (F33.P3 (F33.L3 call lf ro n) e h) (loopK (execK Tryd.prog call lf ro (sub (codeOf Tryd.f33) [true, true, false, true, false, false])) n e h (F33.K3 call lf ro)) := by
  refine loop_le (fun e h k k' hs hk => execK_mono _ e h k k' hs hk) (kb := fun n => F33.P3 (F33.L3 call lf ro n)) (kx := fun i e h => F33.C3 call lf ro (.exit i e h)) (kr := fun e h => F33.C3 call lf ro (.ret e h)) ?_ ?_ (fun i e h hs => (F33.CK3 call lf ro).exit i e h hs) (fun e h hs => (F33.CK3 call lf ro).ret e h hs)
  · rintro e h ⟨f, rfl⟩
    unfold F33.P3
    refine getK_le fun w0 g0 => ?_
    rw [EF_get (by decide)] at g0
    refine sliceK_le fun a292 l292 c292 z322 => ?_
    subst z322
    refine getK_le fun w1 g1 => ?_
    rw [EF_get (by decide)] at g1
    refine intK_le fun n293 z323 => ?_
    subst z323
    refine getK_le fun w5 g5 => ?_
    rw [EF_get (by decide)] at g5
    refine strK_le fun s294 z324 => ?_
    subst z324
    refine getK_le fun w6 g6 => ?_
    rw [EF_get (by decide)] at g6
    refine intK_le fun n295 z325 => ?_
    subst z325
    exact LeO.refl _
  · rintro n e h ⟨f, rfl⟩
    unfold F33.P3
    refine getK_le fun w0 g0 => ?_
    rw [EF_get (by decide)] at g0
    refine sliceK_le fun a292 l292 c292 z326 => ?_
    subst z326
    refine getK_le fun w1 g1 => ?_
    rw [EF_get (by decide)] at g1
    refine intK_le fun n293 z327 => ?_
    subst z327
    refine getK_le fun w5 g5 => ?_
    rw [EF_get (by decide)] at g5
    refine strK_le fun s294 z328 => ?_
    subst z328
    refine getK_le fun w6 g6 => ?_
    rw [EF_get (by decide)] at g6
    refine intK_le fun n295 z329 => ?_
    subst z329
    have hr := F33.R3 call lf ro n f a292 l292 c292 n293 s294 n295 h
    rw [updF_same g0, updF_same g1, updF_same g5, updF_same g6] at hr
    exact round_le (H := (F33.H3 call lf ro (F33.L3 call lf ro n))) (J := (F33.U3 call lf ro (F33.L3 call lf ro n))) ⟨(hd_free rfl), (fun e h hs => F33.BJ5 call lf ro (F33.L3 call lf ro n) e h hs)⟩ hr

theorem F33.le (call : CT) (lf ro : Nat) (ax0 : Option Addr) (lx0 : Nat) (cx0 : Nat) (x1 : Int) (h : Heap) : LeO (F33.t call lf ro ax0 lx0 cx0 x1 h) (bodyK Tryd.prog call lf ro Tryd.f33 [.slice ax0 lx0 cx0, .int .i64 x1] h) :=
  body_le (c := codeOf Tryd.f33) (H := F33.Ht call lf ro) (J := F33.Ut call lf ro) rfl (Nat.le_of_ble_eq_true rfl) ⟨(hd_free rfl), ⟨(hd_free rfl), ⟨⟨(hd_free rfl), (fun e h hs => F33.B3 call lf ro  lf e h hs)⟩, (hd_free rfl)⟩⟩⟩ (by kernel_rfl)

/-! ### barscan/barscanref32.packed: function 34 -/

noncomputable def F34.J9 (call : CT) (lf ro : Nat) (kb3 : (Option Addr) → Nat → Nat → (Option Addr) → Nat → Nat → Int → Heap → Out) (kb7 : (Option Addr) → Nat → Nat → (Option Addr) → Nat → Nat → Int → Int → Int → Heap → Out) (a15 : Option Addr) (l15 : Nat) (c15 : Nat) (a16 : Option Addr) (l16 : Nat) (c16 : Nat) (n17 : Int) (n18 : Int) (n19 : Int) (h20 : Heap) : Out :=
  letJ (fun (n237 : Int) (h238 : Heap) =>
  (kb7 a15 l15 c15 a16 l16 c16 n17 n237 (IntKind.i64.wrap (n19 + 1)) h238)) fun j239 =>
  letJ (fun (b245 : Bool) (h246 : Heap) =>
  (ifK b245 (j239 (IntKind.i64.wrap ((IntKind.i64.wrap (2 * n18)) + 1)) h246) (j239 (IntKind.i64.wrap (2 * n18)) h246))) fun j247 =>
  ifK (decide (n19 < (l15 : Int))) (bindO (idxO Tryd.prog 22 (.slice a15 l15 c15) (.int .i64 n19) h20) fun v248 h249 =>
  bindO (loadO Tryd.prog 5 v248 h249) fun v250 h251 =>
  intK .u8 v250 fun n252 =>
  j247 (n252 == 0) h251) (j247 false h20)

noncomputable def F34.PJ9 (kb : (Option Addr) → Nat → Nat → (Option Addr) → Nat → Nat → Int → Int → Int → Heap → Out) (e : Env) (h : Heap) : Out :=
  getK (e.get 0) fun w0 =>
  sliceK w0 fun a253 l253 c253 =>
  getK (e.get 3) fun w3 =>
  sliceK w3 fun a254 l254 c254 =>
  getK (e.get 4) fun w4 =>
  intK .i64 w4 fun n255 =>
  getK (e.get 5) fun w5 =>
  intK .i64 w5 fun n256 =>
  getK (e.get 6) fun w6 =>
  intK .i64 w6 fun n257 =>
  kb a253 l253 c253 a254 l254 c254 n255 n256 n257 h

noncomputable def F34.L7 (call : CT) (lf ro : Nat) (kb3 : (Option Addr) → Nat → Nat → (Option Addr) → Nat → Nat → Int → Heap → Out) : Nat → (Option Addr) → Nat → Nat → (Option Addr) → Nat → Nat → Int → Int → Int → Heap → Out
  | 0, _, _, _, _, _, _, _, _, _, _ => .fail
  | n + 1, a9, l9, c9, a10, l10, c10, n11, n12, n13, h14 =>
  ifK (decide (n13 < IntKind.i64.wrap (n11 + 8))) (F34.J9 call lf ro kb3 (F34.L7 call lf ro kb3 n) a9 l9 c9 a10 l10 c10 n11 n12 n13 h14) (pushJ h14 1 [.int .u8 (IntKind.u8.wrap n12)] fun h286 =>
  bindO (appO Tryd.prog ro 22 22 (.slice a10 l10 c10) (.slice (some ⟨h14.next, 0, none⟩) 1 1) h286) fun v287 h288 =>
  sliceK v287 fun a289 l289 c289 =>
  kb3 a9 l9 c9 a289 l289 c289 (IntKind.i64.wrap (n11 + 8)) h288)

noncomputable def F34.P7 (kb : (Option Addr) → Nat → Nat → (Option Addr) → Nat → Nat → Int → Int → Int → Heap → Out) (e : Env) (h : Heap) : Out :=
  getK (e.get 0) fun w0 =>
  sliceK w0 fun a290 l290 c290 =>
  getK (e.get 3) fun w3 =>
  sliceK w3 fun a291 l291 c291 =>
  getK (e.get 4) fun w4 =>
  intK .i64 w4 fun n292 =>
  getK (e.get 5) fun w5 =>
  intK .i64 w5 fun n293 =>
  getK (e.get 6) fun w6 =>
  intK .i64 w6 fun n294 =>
  kb a290 l290 c290 a291 l291 c291 n292 n293 n294 h

noncomputable def F34.J5 (call : CT) (lf ro : Nat) (kb3 : (Option Addr) → Nat → Nat → (Option Addr) → Nat → Nat → Int → Heap → Out) (a5 : Option Addr) (l5 : Nat) (c5 : Nat) (a6 : Option Addr) (l6 : Nat) (c6 : Nat) (n7 : Int) (h8 : Heap) : Out :=
  F34.L7 call lf ro kb3 lf a5 l5 c5 a6 l6 c6 n7 0 n7 h8

noncomputable def F34.PJ5 (kb : (Option Addr) → Nat → Nat → (Option Addr) → Nat → Nat → Int → Heap → Out) (e : Env) (h : Heap) : Out :=
  getK (e.get 0) fun w0 =>
  sliceK w0 fun a295 l295 c295 =>
  getK (e.get 3) fun w3 =>
  sliceK w3 fun a296 l296 c296 =>
  getK (e.get 4) fun w4 =>
  intK .i64 w4 fun n297 =>
  kb a295 l295 c295 a296 l296 c296 n297 h

noncomputable def F34.L3 (call : CT) (lf ro : Nat) : Nat → (Option Addr) → Nat → Nat → (Option Addr) → Nat → Nat → Int → Heap → Out
  | 0, _, _, _, _, _, _, _, _ => .fail
  | n + 1, a1, l1, c1, a2, l2, c2, n3, h4 =>
  ifK (decide (n3 < (l1 : Int))) (F34.J5 call lf ro (F34.L3 call lf ro n) a1 l1 c1 a2 l2 c2 n3 h4) (Out.ok (.slice a2 l2 c2) h4)

noncomputable def F34.P3 (kb : (Option Addr) → Nat → Nat → (Option Addr) → Nat → Nat → Int → Heap → Out) (e : Env) (h : Heap) : Out :=
  getK (e.get 0) fun w0 =>
  sliceK w0 fun a298 l298 c298 =>
  getK (e.get 3) fun w3 =>
  sliceK w3 fun a299 l299 c299 =>
  getK (e.get 4) fun w4 =>
  intK .i64 w4 fun n300 =>
  kb a298 l298 c298 a299 l299 c299 n300 h

noncomputable def F34.t (call : CT) (lf ro : Nat) (ax0 : Option Addr) (lx0 : Nat) (cx0 : Nat) (h : Heap) : Out :=
  F34.L3 call lf ro lf ax0 lx0 cx0 none 0 0 0 h

noncomputable def F34.Ht (call : CT) (lf ro : Nat) (i : Nat) (e : Env) (h : Heap) : Out := ifK (i == 3) (F34.P3 (F34.L3 call lf ro lf) e h) (.fail)
noncomputable def F34.Ut (call : CT) (lf ro : Nat) (i : Nat) : Option (Env → Heap → Out) := none

noncomputable def F34.H7 (call : CT) (lf ro : Nat) (kb3 : (Option Addr) → Nat → Nat → (Option Addr) → Nat → Nat → Int → Heap → Out) (kb7 : (Option Addr) → Nat → Nat → (Option Addr) → Nat → Nat → Int → Int → Int → Heap → Out) (i : Nat) (e : Env) (h : Heap) : Out := ifK (i == 7) (F34.P7 (F34.L7 call lf ro kb3 lf) e h) (ifK (i == 3) (F34.P3 (F34.L3 call lf ro lf) e h) (.fail))
noncomputable def F34.U7 (call : CT) (lf ro : Nat) (kb3 : (Option Addr) → Nat → Nat → (Option Addr) → Nat → Nat → Int → Heap → Out) (kb7 : (Option Addr) → Nat → Nat → (Option Addr) → Nat → Nat → Int → Int → Int → Heap → Out) (i : Nat) : Option (Env → Heap → Out) := ifJ (i == 9) (some (F34.PJ9 (F34.J9 call lf ro kb3 kb7))) (ifJ (i == 5) (some (F34.PJ5 (F34.J5 call lf ro kb3))) (none))

noncomputable def F34.H3 (call : CT) (lf ro : Nat) (kb3 : (Option Addr) → Nat → Nat → (Option Addr) → Nat → Nat → Int → Heap → Out) (i : Nat) (e : Env) (h : Heap) : Out := ifK (i == 7) (F34.P7 (F34.L7 call lf ro kb3 lf) e h) (ifK (i == 3) (F34.P3 (F34.L3 call lf ro lf) e h) (.fail))
noncomputable def F34.U3 (call : CT) (lf ro : Nat) (kb3 : (Option Addr) → Nat → Nat → (Option Addr) → Nat → Nat → Int → Heap → Out) (i : Nat) : Option (Env → Heap → Out) := ifJ (i == 5) (some (F34.PJ5 (F34.J5 call lf ro kb3))) (none)

noncomputable def F34.C3 (call : CT) (lf ro : Nat) : COut → Out := blockK 0 (seqH Tryd.prog call ro (F34.Ht call lf ro) (F34.Ut call lf ro) (sub (codeOf Tryd.f34) [true, true, true]) (endK Tryd.prog Tryd.f34))

noncomputable def F34.K3 (call : CT) (lf ro : Nat) : COut → Out := blockK 0 (seqK Tryd.prog call lf ro (sub (codeOf Tryd.f34) [true, true, true]) (endK Tryd.prog Tryd.f34))

noncomputable def F34.C7 (call : CT) (lf ro : Nat) (kb3 : (Option Addr) → Nat → Nat → (Option Addr) → Nat → Nat → Int → Heap → Out) : COut → Out := blockK 2 (seqH Tryd.prog call ro (F34.H3 call lf ro kb3) (F34.U3 call lf ro kb3) (sub (codeOf Tryd.f34) [true, true, false, true, false, false, true, false, false, true, true]) (blockK 1 (seqH Tryd.prog call ro (F34.H3 call lf ro kb3) (F34.U3 call lf ro kb3) (sub (codeOf Tryd.f34) [true, true, false, true, false, false, true, true]) (outK (F34.P3 kb3) (fun i e h => F34.C3 call lf ro (.exit i e h)) (fun e h => F34.C3 call lf ro (.ret e h))))))

noncomputable def F34.K7 (call : CT) (lf ro : Nat) (kb3 : (Option Addr) → Nat → Nat → (Option Addr) → Nat → Nat → Int → Heap → Out) : COut → Out := blockK 2 (seqK Tryd.prog call lf ro (sub (codeOf Tryd.f34) [true, true, false, true, false, false, true, false, false, true, true]) (blockK 1 (seqK Tryd.prog call lf ro (sub (codeOf Tryd.f34) [true, true, false, true, false, false, true, true]) (outK (F34.P3 kb3) (fun i e h => F34.C3 call lf ro (.exit i e h)) (fun e h => F34.C3 call lf ro (.ret e h))))))

noncomputable def F34.CJ5 (call : CT) (lf ro : Nat) (kb3 : (Option Addr) → Nat → Nat → (Option Addr) → Nat → Nat → Int → Heap → Out) : COut → Out := outK (F34.P3 kb3) (fun i e h => F34.C3 call lf ro (.exit i e h)) (fun e h => F34.C3 call lf ro (.ret e h))

noncomputable def F34.KJ5 (call : CT) (lf ro : Nat) (kb3 : (Option Addr) → Nat → Nat → (Option Addr) → Nat → Nat → Int → Heap → Out) : COut → Out := outK (F34.P3 kb3) (fun i e h => F34.C3 call lf ro (.exit i e h)) (fun e h => F34.C3 call lf ro (.ret e h))

noncomputable def F34.CJ9 (call : CT) (lf ro : Nat) (kb3 : (Option Addr) → Nat → Nat → (Option Addr) → Nat → Nat → Int → Heap → Out) (kb7 : (Option Addr) → Nat → Nat → (Option Addr) → Nat → Nat → Int → Int → Int → Heap → Out) : COut → Out := outK (F34.P7 kb7) (fun i e h => F34.C7 call lf ro kb3 (.exit i e h)) (fun e h => F34.C7 call lf ro kb3 (.ret e h))

noncomputable def F34.KJ9 (call : CT) (lf ro : Nat) (kb3 : (Option Addr) → Nat → Nat → (Option Addr) → Nat → Nat → Int → Heap → Out) (kb7 : (Option Addr) → Nat → Nat → (Option Addr) → Nat → Nat → Int → Int → Int → Heap → Out) : COut → Out := outK (F34.P7 kb7) (fun i e h => F34.C7 call lf ro kb3 (.exit i e h)) (fun e h => F34.C7 call lf ro kb3 (.ret e h))

theorem F34.RJ9 (call : CT) (lf ro : Nat) (kb3 : (Option Addr) → Nat → Nat → (Option Addr) → Nat → Nat → Int → Heap → Out) (kb7 : (Option Addr) → Nat → Nat → (Option Addr) → Nat → Nat → Int → Int → Int → Heap → Out) (f : Nat → Option Value) (a15 : Option Addr) (l15 : Nat) (c15 : Nat) (a16 : Option Addr) (l16 : Nat) (c16 : Nat) (n17 : Int) (n18 : Int) (n19 : Int) (h20 : Heap) :
    execH Tryd.prog call ro (F34.H7 call lf ro kb3 kb7) (F34.U7 call lf ro kb3 kb7) (sub (codeOf Tryd.f34) [true, true, false, true, false, false, true, false, false, true, false, true, false, false, true]) (EF 41 (updF (updF (updF (updF (updF f 0 (some (.slice a15 l15 c15))) 3 (some (.slice a16 l16 c16))) 4 (some (.int .i64 n17))) 5 (some (.int .i64 n18))) 6 (some (.int .i64 n19)))) h20 (F34.CJ9 call lf ro kb3 kb7) = F34.J9 call lf ro kb3 kb7 a15 l15 c15 a16 l16 c16 n17 n18 n19 h20 := by kernel_rfl

theorem F34.CKJ9 (call : CT) (lf ro : Nat) (kb3 : (Option Addr) → Nat → Nat → (Option Addr) → Nat → Nat → Int → Heap → Out) (kb7 : (Option Addr) → Nat → Nat → (Option Addr) → Nat → Nat → Int → Int → Int → Heap → Out) : KLe 41 (F34.CJ9 call lf ro kb3 kb7) (F34.KJ9 call lf ro kb3 kb7) :=
  (KLe.refl _)

theorem F34.BJ9 (call : CT) (lf ro : Nat) (kb3 : (Option Addr) → Nat → Nat → (Option Addr) → Nat → Nat → Int → Heap → Out) (kb7 : (Option Addr) → Nat → Nat → (Option Addr) → Nat → Nat → Int → Int → Int → Heap → Out) : ∀ e h, Shaped 41 e → LeO (F34.PJ9 (F34.J9 call lf ro kb3 kb7) e h) (execK Tryd.prog call lf ro (sub (codeOf Tryd.f34) [true, true, false, true, false, false, true, false, false, true, false, true, false, false, true]) e h (F34.KJ9 call lf ro kb3 kb7)) := by
    rintro e h ⟨f, rfl⟩
    unfold F34.PJ9
    refine getK_le fun w0 g0 => ?_
    rw [EF_get (by decide)] at g0
    refine sliceK_le fun a253 l253 c253 z301 => ?_
    subst z301
    refine getK_le fun w3 g3 => ?_
    rw [EF_get (by decide)] at g3
    refine sliceK_le fun a254 l254 c254 z302 => ?_
    subst z302
    refine getK_le fun w4 g4 => ?_
    rw [EF_get (by decide)] at g4
    refine intK_le fun n255 z303 => ?_
    subst z303
    refine getK_le fun w5 g5 => ?_
    rw [EF_get (by decide)] at g5
    refine intK_le fun n256 z304 => ?_
    subst z304
    refine getK_le fun w6 g6 => ?_
    rw [EF_get (by decide)] at g6
    refine intK_le fun n257 z305 => ?_
    subst z305
    have hr := F34.RJ9 call lf ro kb3 kb7 f a253 l253 c253 a254 l254 c254 n255 n256 n257 h
    rw [updF_same g0, updF_same g3, updF_same g4, updF_same g5, updF_same g6] at hr
    exact cut_le (H := (F34.H7 call lf ro kb3 kb7)) (J := (F34.U7 call lf ro kb3 kb7)) (F34.CKJ9 call lf ro kb3 kb7) (hd_free rfl) hr

theorem F34.R7 (call : CT) (lf ro : Nat) (kb3 : (Option Addr) → Nat → Nat → (Option Addr) → Nat → Nat → Int → Heap → Out) (n : Nat) (f : Nat → Option Value) (a9 : Option Addr) (l9 : Nat) (c9 : Nat) (a10 : Option Addr) (l10 : Nat) (c10 : Nat) (n11 : Int) (n12 : Int) (n13 : Int) (h14 : Heap) :
    execH Tryd.prog call ro (F34.H7 call lf ro kb3 (F34.L7 call lf ro kb3 n)) (F34.U7 call lf ro kb3 (F34.L7 call lf ro kb3 n)) (sub (codeOf Tryd.f34) [true, true, false, true, false, false, true, false, false, true, false, true, false, false]) (EF 41 (updF (updF (updF (updF (updF f 0 (some (.slice a9 l9 c9))) 3 (some (.slice a10 l10 c10))) 4 (some (.int .i64 n11))) 5 (some (.int .i64 n12))) 6 (some (.int .i64 n13)))) h14 (outK (F34.P7 (F34.L7 call lf ro kb3 n)) (fun i e h => F34.C7 call lf ro kb3 (.exit i e h)) (fun e h => F34.C7 call lf ro kb3 (.ret e h))) = F34.L7 call lf ro kb3 (n + 1) a9 l9 c9 a10 l10 c10 n11 n12 n13 h14 := by kernel_rfl

theorem F34.CK7 (call : CT) (lf ro : Nat) (kb3 : (Option Addr) → Nat → Nat → (Option Addr) → Nat → Nat → Int → Heap → Out) : KLe 41 (F34.C7 call lf ro kb3) (F34.K7 call lf ro kb3) :=
  (KLe.block (KLe.seq (H := (F34.H3 call lf ro kb3)) (J := (F34.U3 call lf ro kb3)) (KLe.block (KLe.seq (H := (F34.H3 call lf ro kb3)) (J := (F34.U3 call lf ro kb3)) (KLe.refl _) (hd_free rfl))) (hd_free rfl)))

theorem F34.B7 (call : CT) (lf ro : Nat) (kb3 : (Option Addr) → Nat → Nat → (Option Addr) → Nat → Nat → Int → Heap → Out) : ∀ n e h, Shaped 41 e → LeO (F34.P7 (F34.L7 call lf ro kb3 n) e h) (loopK (execK Tryd.prog call lf ro (sub (codeOf Tryd.f34) [true, true, false, true, false, false, true, false, false, true, false, true, false, false])) n e h (F34.K7 call lf ro kb3)) := by
  refine loop_le (fun e h k k' hs hk => execK_mono _ e h k k' hs hk) (kb := fun n => F34.P7 (F34.L7 call lf ro kb3 n)) (kx := fun i e h => F34.C7 call lf ro kb3 (.exit i e h)) (kr := fun e h => F34.C7 call lf ro kb3 (.ret e h)) ?_ ?_ (fun i e h hs => (F34.CK7 call lf ro kb3).exit i e h hs) (fun e h hs => (F34.CK7 call lf ro kb3).ret e h hs)
  · rintro e h ⟨f, rfl⟩
    unfold F34.P7
    refine getK_le fun w0 g0 => ?_
    rw [EF_get (by decide)] at g0
    refine sliceK_le fun a290 l290 c290 z311 => ?_
    subst z311
    refine getK_le fun w3 g3 => ?_
    rw [EF_get (by decide)] at g3
    refine sliceK_le fun a291 l291 c291 z312 => ?_
    subst z312
    refine getK_le fun w4 g4 => ?_
    rw [EF_get (by decide)] at g4
    refine intK_le fun n292 z313 => ?_
    subst z313
    refine getK_le fun w5 g5 => ?_
    rw [EF_get (by decide)] at g5
    refine intK_le fun n293 z314 => ?_
    subst z314
    refine getK_le fun w6 g6 => ?_
    rw [EF_get (by decide)] at g6
    refine intK_le fun n294 z315 => ?_
    subst z315
    exact LeO.refl _
  · rintro n e h ⟨f, rfl⟩
    unfold F34.P7
    refine getK_le fun w0 g0 => ?_
    rw [EF_get (by decide)] at g0
    refine sliceK_le fun a290 l290 c290 z316 => ?_
    subst z316
    refine getK_le fun w3 g3 => ?_
    rw [EF_get (by decide)] at g3
    refine sliceK_le fun a291 l291 c291 z317 => ?_
    subst z317
    refine getK_le fun w4 g4 => ?_
    rw [EF_get (by decide)] at g4
    refine intK_le fun n292 z318 => ?_
    subst z318
    refine getK_le fun w5 g5 => ?_
    rw [EF_get (by decide)] at g5
    refine intK_le fun n293 z319 => ?_
    subst z319
    refine getK_le fun w6 g6 => ?_
    rw [EF_get (by decide)] at g6
    refine intK_le fun n294 z320 => ?_
    subst z320
    have hr := F34.R7 call lf ro kb3 n f a290 l290 c290 a291 l291 c291 n292 n293 n294 h
    rw [updF_same g0, updF_same g3, updF_same g4, updF_same g5, updF_same g6] at hr
    exact round_le (H := (F34.H7 call lf ro kb3 (F34.L7 call lf ro kb3 n))) (J := (F34.U7 call lf ro kb3 (F34.L7 call lf ro kb3 n))) ⟨(hd_free rfl), (fun e h hs => F34.BJ9 call lf ro kb3 (F34.L7 call lf ro kb3 n) e h hs)⟩ hr

theorem F34.RJ5 (call : CT) (lf ro : Nat) (kb3 : (Option Addr) → Nat → Nat → (Option Addr) → Nat → Nat → Int → Heap → Out) (f : Nat → Option Value) (a5 : Option Addr) (l5 : Nat) (c5 : Nat) (a6 : Option Addr) (l6 : Nat) (c6 : Nat) (n7 : Int) (h8 : Heap) :
    execH Tryd.prog call ro (F34.H3 call lf ro kb3) (F34.U3 call lf ro kb3) (sub (codeOf Tryd.f34) [true, true, false, true, false, false, true]) (EF 41 (updF (updF (updF f 0 (some (.slice a5 l5 c5))) 3 (some (.slice a6 l6 c6))) 4 (some (.int .i64 n7)))) h8 (F34.CJ5 call lf ro kb3) = F34.J5 call lf ro kb3 a5 l5 c5 a6 l6 c6 n7 h8 := by kernel_rfl

theorem F34.CKJ5 (call : CT) (lf ro : Nat) (kb3 : (Option Addr) → Nat → Nat → (Option Addr) → Nat → Nat → Int → Heap → Out) : KLe 41 (F34.CJ5 call lf ro kb3) (F34.KJ5 call lf ro kb3) :=
  (KLe.refl _)

theorem F34.BJ5 (call : CT) (lf ro : Nat) (kb3 : (Option Addr) → Nat → Nat → (Option Addr) → Nat → Nat → Int → Heap → Out) : ∀ e h, Shaped 41 e → LeO (F34.PJ5 (F34.J5 call lf ro kb3) e h) (execK Tryd.prog call lf ro (sub (codeOf Tryd.f34) [true, true, false, true, false, false, true]) e h (F34.KJ5 call lf ro kb3)) := by
    rintro e h ⟨f, rfl⟩
    unfold F34.PJ5
    refine getK_le fun w0 g0 => ?_
    rw [EF_get (by decide)] at g0
    refine sliceK_le fun a295 l295 c295 z321 => ?_
    subst z321
    refine getK_le fun w3 g3 => ?_
    rw [EF_get (by decide)] at g3
    refine sliceK_le fun a296 l296 c296 z322 => ?_
    subst z322
    refine getK_le fun w4 g4 => ?_
    rw [EF_get (by decide)] at g4
    refine intK_le fun n297 z323 => ?_
    subst z323
    have hr := F34.RJ5 call lf ro kb3 f a295 l295 c295 a296 l296 c296 n297 h
    rw [updF_same g0, updF_same g3, updF_same g4] at hr
    exact cut_le (H := (F34.H3 call lf ro kb3)) (J := (F34.U3 call lf ro kb3)) (F34.CKJ5 call lf ro kb3) ⟨⟨(hd_free rfl), ⟨⟨(hd_free rfl), (fun e h hs => F34.B7 call lf ro kb3 lf e h hs)⟩, (hd_free rfl)⟩⟩, (hd_free rfl)⟩ hr

theorem F34.R3 (call : CT) (lf ro : Nat) (n : Nat) (f : Nat → Option Value) (a1 : Option Addr) (l1 : Nat) (c1 : Nat) (a2 : Option Addr) (l2 : Nat) (c2 : Nat) (n3 : Int) (h4 : Heap) :
    execH Tryd.prog call ro (F34.H3 call lf ro (F34.L3 call lf ro n)) (F34.U3 call lf ro (F34.L3 call lf ro n)) (sub (codeOf Tryd.f34) [true, true, false, true, false, false]) (EF 41 (updF (updF (updF f 0 (some (.slice a1 l1 c1))) 3 (some (.slice a2 l2 c2))) 4 (some (.int .i64 n3)))) h4 (outK (F34.P3 (F34.L3 call lf ro n)) (fun i e h => F34.C3 call lf ro (.exit i e h)) (fun e h => F34.C3 call lf ro (.ret e h))) = F34.L3 call lf ro (n + 1) a1 l1 c1 a2 l2 c2 n3 h4 := by kernel_rfl

theorem F34.CK3 (call : CT) (lf ro : Nat) : KLe 41 (F34.C3 call lf ro) (F34.K3 call lf ro) :=
  (KLe.block (KLe.seq (H := (F34.Ht call lf ro)) (J := (F34.Ut call lf ro)) (KLe.refl _) (hd_free rfl)))

theorem F34.B3 (call : CT) (lf ro : Nat) : ∀ n e h, Shaped 41 e → LeO (F34.P3 (F34.L3 call lf ro n) e h) (loopK (execK Tryd.prog call lf ro (sub (codeOf Tryd.f34) [true, true, false, true, false, false])) n e h (F34.K3 call lf ro)) := by
  refine loop_le (fun e h k k' hs hk => execK_mono _ e h k k' hs hk) (kb := fun n => F34.P3 (F34.L3 call lf ro n)) (kx := fun i e h => F34.C3 call lf ro (.exit i e h)) (kr := fun e h => F34.C3 call lf ro (.ret e h)) ?_ ?_ (fun i e h hs => (F34.CK3 call lf ro).exit i e h hs) (fun e h hs => (F34.CK3 call lf ro).ret e h hs)
  · rintro e h ⟨f, rfl⟩
    unfold F34.P3
    refine getK_le fun w0 g0 => ?_
    rw [EF_get (by decide)] at g0
    refine sliceK_le fun a298 l298 c298 z327 => ?_
    subst z327
    refine getK_le fun w3 g3 => ?_
    rw [EF_get (by decide)] at g3
    refine sliceK_le fun a299 l299 c299 z328 => ?_
    subst z328
    refine getK_le fun w4 g4 => ?_
    rw [EF_get (by decide)] at g4
    refine intK_le fun n300 z329 => ?_
    subst z329
    exact LeO.refl _
  · rintro n e h ⟨f, rfl⟩
    unfold F34.P3
    refine getK_le fun w0 g0 => ?_
    rw [EF_get (by decide)] at g0
    refine sliceK_le fun a298 l298 c298 z330 => ?_
    subst z330
    refine getK_le fun w3 g3 => ?_
    rw [EF_get (by decide)] at g3
    refine sliceK_le fun a299 l299 c299 z331 => ?_
    subst z331
    refine getK_le fun w4 g4 => ?_
    rw [EF_get (by decide)] at g4
    refine intK_le fun n300 z332 => ?_
    subst z332
    have hr := F34.R3 call lf ro n f a298 l298 c298 a299 l299 c299 n300 h
    rw [updF_same g0, updF_same g3, updF_same g4] at hr
    exact round_le (H := (F34.H3 call lf ro (F34.L3 call lf ro n))) (J := (F34.U3 call lf ro (F34.L3 call lf ro n))) ⟨(hd_free rfl), (fun e h hs => F34.BJ5 call lf ro (F34.L3 call lf ro n) e h hs)⟩ hr

theorem F34.le (call : CT) (lf ro : Nat) (ax0 : Option Addr) (lx0 : Nat) (cx0 : Nat) (h : Heap) : LeO (F34.t call lf ro ax0 lx0 cx0 h) (bodyK Tryd.prog call lf ro Tryd.f34 [.slice ax0 lx0 cx0] h) :=
  body_le (c := codeOf Tryd.f34) (H := F34.Ht call lf ro) (J := F34.Ut call lf ro) rfl (Nat.le_of_ble_eq_true rfl) ⟨(hd_free rfl), ⟨(hd_free rfl), ⟨⟨(hd_free rfl), (fun e h hs => F34.B3 call lf ro  lf e h hs)⟩, (hd_free rfl)⟩⟩⟩ (by kernel_rfl)

/-! ### barscan/raster.possible: function 39 -/

noncomputable def F39.t (call : CT) (lf ro : Nat) (x0 : Int) (x1 : Int) (h : Heap) : Out :=
  letJ (fun (b1 : Bool) =>
  (Out.ok (.bool b1) h)) fun j2 =>
  ifK (decide (x0 ≥ 1)) (ifK (decide (x0 ≤ 4096)) (ifK (decide (x1 ≥ 1)) (ifK (decide (x1 ≤ 4096)) (j2 (decide (IntKind.i64.wrap (x0 * x1) ≤ 4194304))) (j2 false)) (j2 false)) (j2 false)) (j2 false)

noncomputable def F39.Ht (call : CT) (lf ro : Nat) (i : Nat) (e : Env) (h : Heap) : Out := .fail
noncomputable def F39.Ut (call : CT) (lf ro : Nat) (i : Nat) : Option (Env → Heap → Out) := none

theorem F39.le (call : CT) (lf ro : Nat) (x0 : Int) (x1 : Int) (h : Heap) : LeO (F39.t call lf ro x0 x1 h) (bodyK Tryd.prog call lf ro Tryd.f39 [.int .i64 x0, .int .i64 x1] h) :=
  body_le (c := codeOf Tryd.f39) (H := F39.Ht call lf ro) (J := F39.Ut call lf ro) rfl (Nat.le_of_ble_eq_true rfl) (hd_free rfl) (by kernel_rfl)

/-! ### slices.IndexFunc[[]uint8,uint8]: function 40 -/

noncomputable def F40.J3 (call : CT) (lf ro : Nat) (kb2 : (Option Addr) → Nat → Nat → Int → Int → Heap → Out) (a5 : Option Addr) (l5 : Nat) (c5 : Nat) (n6 : Int) (n7 : Int) (h8 : Heap) : Out :=
  bindO (idxO Tryd.prog 22 (.slice a5 l5 c5) (.int .i64 n7) h8) fun v65 h66 =>
  bindO (loadO Tryd.prog 5 v65 h66) fun v67 h68 =>
  intK .u8 v67 fun n69 =>
  bindO (call ro 23 [.int .u8 n69] h68) fun v70 h71 =>
  boolK v70 fun b72 =>
  ifK b72 (Out.ok (.int .i64 n7) h71) (kb2 a5 l5 c5 n6 (IntKind.i64.wrap (n7 + 1)) h71)

noncomputable def F40.PJ3 (kb : (Option Addr) → Nat → Nat → Int → Int → Heap → Out) (e : Env) (h : Heap) : Out :=
  getK (e.get 0) fun w0 =>
  sliceK w0 fun a73 l73 c73 =>
  getK (e.get 1) fun w1 =>
  funK 23 w1 fun q75 q76 =>
  nilK q75 <|
  nilK q76 <|
  getK (e.get 7) fun w7 =>
  intK .i64 w7 fun n77 =>
  getK (e.get 8) fun w8 =>
  intK .i64 w8 fun n78 =>
  kb a73 l73 c73 n77 n78 h

noncomputable def F40.L2 (call : CT) (lf ro : Nat) : Nat → (Option Addr) → Nat → Nat → Int → Int → Heap → Out
  | 0, _, _, _, _, _, _ => .fail
  | n + 1, a1, l1, c1, n2, n3, h4 =>
  ifK (decide (n3 < n2)) (F40.J3 call lf ro (F40.L2 call lf ro n) a1 l1 c1 n2 n3 h4) (Out.ok (.int .i64 (-1)) h4)

noncomputable def F40.P2 (kb : (Option Addr) → Nat → Nat → Int → Int → Heap → Out) (e : Env) (h : Heap) : Out :=
  getK (e.get 0) fun w0 =>
  sliceK w0 fun a79 l79 c79 =>
  getK (e.get 1) fun w1 =>
  funK 23 w1 fun q81 q82 =>
  nilK q81 <|
  nilK q82 <|
  getK (e.get 7) fun w7 =>
  intK .i64 w7 fun n83 =>
  getK (e.get 8) fun w8 =>
  intK .i64 w8 fun n84 =>
  kb a79 l79 c79 n83 n84 h

noncomputable def F40.t (call : CT) (lf ro : Nat) (ax0 : Option Addr) (lx0 : Nat) (cx0 : Nat) (h : Heap) : Out :=
  F40.L2 call lf ro lf ax0 lx0 cx0 (lx0 : Int) 0 h

noncomputable def F40.Ht (call : CT) (lf ro : Nat) (i : Nat) (e : Env) (h : Heap) : Out := ifK (i == 2) (F40.P2 (F40.L2 call lf ro lf) e h) (.fail)
noncomputable def F40.Ut (call : CT) (lf ro : Nat) (i : Nat) : Option (Env → Heap → Out) := none

noncomputable def F40.H2 (call : CT) (lf ro : Nat) (kb2 : (Option Addr) → Nat → Nat → Int → Int → Heap → Out) (i : Nat) (e : Env) (h : Heap) : Out := ifK (i == 2) (F40.P2 (F40.L2 call lf ro lf) e h) (.fail)
noncomputable def F40.U2 (call : CT) (lf ro : Nat) (kb2 : (Option Addr) → Nat → Nat → Int → Int → Heap → Out) (i : Nat) : Option (Env → Heap → Out) := ifJ (i == 3) (some (F40.PJ3 (F40.J3 call lf ro kb2))) (none)

noncomputable def F40.C2 (call : CT) (lf ro : Nat) : COut → Out := blockK 0 (seqH Tryd.prog call ro (F40.Ht call lf ro) (F40.Ut call lf ro) (sub (codeOf Tryd.f40) [true, true]) (endK Tryd.prog Tryd.f40))

noncomputable def F40.K2 (call : CT) (lf ro : Nat) : COut → Out := blockK 0 (seqK Tryd.prog call lf ro (sub (codeOf Tryd.f40) [true, true]) (endK Tryd.prog Tryd.f40))

noncomputable def F40.CJ3 (call : CT) (lf ro : Nat) (kb2 : (Option Addr) → Nat → Nat → Int → Int → Heap → Out) : COut → Out := outK (F40.P2 kb2) (fun i e h => F40.C2 call lf ro (.exit i e h)) (fun e h => F40.C2 call lf ro (.ret e h))

noncomputable def F40.KJ3 (call : CT) (lf ro : Nat) (kb2 : (Option Addr) → Nat → Nat → Int → Int → Heap → Out) : COut → Out := outK (F40.P2 kb2) (fun i e h => F40.C2 call lf ro (.exit i e h)) (fun e h => F40.C2 call lf ro (.ret e h))

theorem F40.RJ3 (call : CT) (lf ro : Nat) (kb2 : (Option Addr) → Nat → Nat → Int → Int → Heap → Out) (f : Nat → Option Value) (a5 : Option Addr) (l5 : Nat) (c5 : Nat) (n6 : Int) (n7 : Int) (h8 : Heap) :
    execH Tryd.prog call ro (F40.H2 call lf ro kb2) (F40.U2 call lf ro kb2) (sub (codeOf Tryd.f40) [true, false, true, false, false, true, true]) (EF 19 (updF (updF (updF (updF f 0 (some (.slice a5 l5 c5))) 1 (some (.func (.func 23) #[] #[]))) 7 (some (.int .i64 n6))) 8 (some (.int .i64 n7)))) h8 (F40.CJ3 call lf ro kb2) = F40.J3 call lf ro kb2 a5 l5 c5 n6 n7 h8 := by kernel_rfl

theorem F40.CKJ3 (call : CT) (lf ro : Nat) (kb2 : (Option Addr) → Nat → Nat → Int → Int → Heap → Out) : KLe 19 (F40.CJ3 call lf ro kb2) (F40.KJ3 call lf ro kb2) :=
  (KLe.refl _)

theorem F40.BJ3 (call : CT) (lf ro : Nat) (kb2 : (Option Addr) → Nat → Nat → Int → Int → Heap → Out) : ∀ e h, Shaped 19 e → LeO (F40.PJ3 (F40.J3 call lf ro kb2) e h) (execK Tryd.prog call lf ro (sub (codeOf Tryd.f40) [true, false, true, false, false, true, true]) e h (F40.KJ3 call lf ro kb2)) := by
    rintro e h ⟨f, rfl⟩
    unfold F40.PJ3
    refine getK_le fun w0 g0 => ?_
    rw [EF_get (by decide)] at g0
    refine sliceK_le fun a73 l73 c73 z85 => ?_
    subst z85
    refine getK_le fun w1 g1 => ?_
    rw [EF_get (by decide)] at g1
    refine funK_le fun q75 q76 z86 => ?_
    subst z86
    refine nilK_le fun z87 => ?_
    subst z87
    refine nilK_le fun z88 => ?_
    subst z88
    refine getK_le fun w7 g7 => ?_
    rw [EF_get (by decide)] at g7
    refine intK_le fun n77 z89 => ?_
    subst z89
    refine getK_le fun w8 g8 => ?_
    rw [EF_get (by decide)] at g8
    refine intK_le fun n78 z90 => ?_
    subst z90
    have hr := F40.RJ3 call lf ro kb2 f a73 l73 c73 n77 n78 h
    rw [updF_same g0, updF_same g1, updF_same g7, updF_same g8] at hr
    exact cut_le (H := (F40.H2 call lf ro kb2)) (J := (F40.U2 call lf ro kb2)) (F40.CKJ3 call lf ro kb2) (hd_free rfl) hr

theorem F40.R2 (call : CT) (lf ro : Nat) (n : Nat) (f : Nat → Option Value) (a1 : Option Addr) (l1 : Nat) (c1 : Nat) (n2 : Int) (n3 : Int) (h4 : Heap) :
    execH Tryd.prog call ro (F40.H2 call lf ro (F40.L2 call lf ro n)) (F40.U2 call lf ro (F40.L2 call lf ro n)) (sub (codeOf Tryd.f40) [true, false, true, false, false]) (EF 19 (updF (updF (updF (updF f 0 (some (.slice a1 l1 c1))) 1 (some (.func (.func 23) #[] #[]))) 7 (some (.int .i64 n2))) 8 (some (.int .i64 n3)))) h4 (outK (F40.P2 (F40.L2 call lf ro n)) (fun i e h => F40.C2 call lf ro (.exit i e h)) (fun e h => F40.C2 call lf ro (.ret e h))) = F40.L2 call lf ro (n + 1) a1 l1 c1 n2 n3 h4 := by kernel_rfl

theorem F40.CK2 (call : CT) (lf ro : Nat) : KLe 19 (F40.C2 call lf ro) (F40.K2 call lf ro) :=
  (KLe.block (KLe.seq (H := (F40.Ht call lf ro)) (J := (F40.Ut call lf ro)) (KLe.refl _) (hd_free rfl)))

theorem F40.B2 (call : CT) (lf ro : Nat) : ∀ n e h, Shaped 19 e → LeO (F40.P2 (F40.L2 call lf ro n) e h) (loopK (execK Tryd.prog call lf ro (sub (codeOf Tryd.f40) [true, false, true, false, false])) n e h (F40.K2 call lf ro)) := by
  refine loop_le (fun e h k k' hs hk => execK_mono _ e h k k' hs hk) (kb := fun n => F40.P2 (F40.L2 call lf ro n)) (kx := fun i e h => F40.C2 call lf ro (.exit i e h)) (kr := fun e h => F40.C2 call lf ro (.ret e h)) ?_ ?_ (fun i e h hs => (F40.CK2 call lf ro).exit i e h hs) (fun e h hs => (F40.CK2 call lf ro).ret e h hs)
  · rintro e h ⟨f, rfl⟩
    unfold F40.P2
    refine getK_le fun w0 g0 => ?_
    rw [EF_get (by decide)] at g0
    refine sliceK_le fun a79 l79 c79 z97 => ?_
    subst z97
    refine getK_le fun w1 g1 => ?_
    rw [EF_get (by decide)] at g1
    refine funK_le fun q81 q82 z98 => ?_
    subst z98
    refine nilK_le fun z99 => ?_
    subst z99
    refine nilK_le fun z100 => ?_
    subst z100
    refine getK_le fun w7 g7 => ?_
    rw [EF_get (by decide)] at g7
    refine intK_le fun n83 z101 => ?_
    subst z101
    refine getK_le fun w8 g8 => ?_
    rw [EF_get (by decide)] at g8
    refine intK_le fun n84 z102 => ?_
    subst z102
    exact LeO.refl _
  · rintro n e h ⟨f, rfl⟩
    unfold F40.P2
    refine getK_le fun w0 g0 => ?_
    rw [EF_get (by decide)] at g0
    refine sliceK_le fun a79 l79 c79 z103 => ?_
    subst z103
    refine getK_le fun w1 g1 => ?_
    rw [EF_get (by decide)] at g1
    refine funK_le fun q81 q82 z104 => ?_
    subst z104
    refine nilK_le fun z105 => ?_
    subst z105
    refine nilK_le fun z106 => ?_
    subst z106
    refine getK_le fun w7 g7 => ?_
    rw [EF_get (by decide)] at g7
    refine intK_le fun n83 z107 => ?_
    subst z107
    refine getK_le fun w8 g8 => ?_
    rw [EF_get (by decide)] at g8
    refine intK_le fun n84 z108 => ?_
    subst z108
    have hr := F40.R2 call lf ro n f a79 l79 c79 n83 n84 h
    rw [updF_same g0, updF_same g1, updF_same g7, updF_same g8] at hr
    exact round_le (H := (F40.H2 call lf ro (F40.L2 call lf ro n))) (J := (F40.U2 call lf ro (F40.L2 call lf ro n))) ⟨(hd_free rfl), ⟨(hd_free rfl), (fun e h hs => F40.BJ3 call lf ro (F40.L2 call lf ro n) e h hs)⟩⟩ hr

theorem F40.le (call : CT) (lf ro : Nat) (ax0 : Option Addr) (lx0 : Nat) (cx0 : Nat) (h : Heap) : LeO (F40.t call lf ro ax0 lx0 cx0 h) (bodyK Tryd.prog call lf ro Tryd.f40 [.slice ax0 lx0 cx0, .func (.func 23) #[] #[]] h) :=
  body_le (c := codeOf Tryd.f40) (H := F40.Ht call lf ro) (J := F40.Ut call lf ro) rfl (Nat.le_of_ble_eq_true rfl) ⟨(hd_free rfl), ⟨⟨(hd_free rfl), (fun e h hs => F40.B2 call lf ro  lf e h hs)⟩, (hd_free rfl)⟩⟩ (by kernel_rfl)

/-! ### internal/strconv.AppendInt: function 41 -/

noncomputable def F41.t (call : CT) (lf ro : Nat) (ax0 : Option Addr) (lx0 : Nat) (cx0 : Nat) (x1 : Int) (x2 : Int) (h : Heap) : Out :=
  letJ (fun (a9 : Option Addr) (l9 : Nat) (c9 : Nat) (n10 : Int) (n11 : Int) (h12 : Heap) =>
  (bindO (call ro 49 [.slice a9 l9 c9, .int .u64 n11, .int .i64 n10] h12) fun v17 h18 =>
  sliceK v17 fun a19 l19 c19 =>
  Out.ok (.slice a19 l19 c19) h18)) fun j13 =>
  ifK (decide (x1 < 0)) (pushJ h 1 [.int .u8 45] fun h24 =>
  bindO (appO Tryd.prog ro 22 22 (.slice ax0 lx0 cx0) (.slice (some ⟨h.next, 0, none⟩) 1 1) h24) fun v25 h26 =>
  sliceK v25 fun a27 l27 c27 =>
  j13 a27 l27 c27 x2 (IntKind.u64.wrap (0 - (IntKind.u64.wrap x1))) h26) (j13 ax0 lx0 cx0 x2 (IntKind.u64.wrap x1) h)

noncomputable def F41.Ht (call : CT) (lf ro : Nat) (i : Nat) (e : Env) (h : Heap) : Out := .fail
noncomputable def F41.Ut (call : CT) (lf ro : Nat) (i : Nat) : Option (Env → Heap → Out) := none

theorem F41.le (call : CT) (lf ro : Nat) (ax0 : Option Addr) (lx0 : Nat) (cx0 : Nat) (x1 : Int) (x2 : Int) (h : Heap) : LeO (F41.t call lf ro ax0 lx0 cx0 x1 x2 h) (bodyK Tryd.prog call lf ro Tryd.f41 [.slice ax0 lx0 cx0, .int .i64 x1, .int .i64 x2] h) :=
  body_le (c := codeOf Tryd.f41) (H := F41.Ht call lf ro) (J := F41.Ut call lf ro) rfl (Nat.le_of_ble_eq_true rfl) (hd_free rfl) (by kernel_rfl)

/-! ### barscan/barscanref31.ValidImage: function 42 -/

noncomputable def F42.t (call : CT) (lf ro : Nat) (x0_0 : Int) (x0_1 : Int) (ax0_2 : Option Addr) (lx0_2 : Nat) (cx0_2 : Nat) (h : Heap) : Out :=
  pushJ h 1 [.int .i64 x0_0, .int .i64 x0_1, .slice ax0_2 lx0_2 cx0_2] fun h2 =>
  letJ (fun (b21 : Bool) (h22 : Heap) =>
  (Out.ok (.bool b21) h22)) fun j23 =>
  bindO (loadO Tryd.prog 3 (.pointer (some ⟨h.next, 0, none⟩)) h2) fun v24 h25 =>
  intK .i64 v24 fun n26 =>
  bindO (loadO Tryd.prog 3 (.pointer (some ⟨h.next, 1, none⟩)) h25) fun v27 h28 =>
  intK .i64 v27 fun n29 =>
  bindO (call ro 50 [.int .i64 n26, .int .i64 n29] h28) fun v30 h31 =>
  boolK v30 fun b32 =>
  ifK b32 (bindO (loadO Tryd.prog 22 (.pointer (some ⟨h.next, 2, none⟩)) h31) fun v33 h34 =>
  sliceK v33 fun a35 l35 c35 =>
  bindO (loadO Tryd.prog 3 (.pointer (some ⟨h.next, 0, none⟩)) h34) fun v36 h37 =>
  intK .i64 v36 fun n38 =>
  bindO (loadO Tryd.prog 3 (.pointer (some ⟨h.next, 1, none⟩)) h37) fun v39 h40 =>
  intK .i64 v39 fun n41 =>
  j23 ((l35 : Int) == (IntKind.i64.wrap (n38 * n41))) h40) (j23 false h31)

noncomputable def F42.Ht (call : CT) (lf ro : Nat) (i : Nat) (e : Env) (h : Heap) : Out := .fail
noncomputable def F42.Ut (call : CT) (lf ro : Nat) (i : Nat) : Option (Env → Heap → Out) := none

theorem F42.le (call : CT) (lf ro : Nat) (x0_0 : Int) (x0_1 : Int) (ax0_2 : Option Addr) (lx0_2 : Nat) (cx0_2 : Nat) (h : Heap) : LeO (F42.t call lf ro x0_0 x0_1 ax0_2 lx0_2 cx0_2 h) (bodyK Tryd.prog call lf ro Tryd.f42 [.agg #[.int .i64 x0_0, .int .i64 x0_1, .slice ax0_2 lx0_2 cx0_2]] h) :=
  body_le (c := codeOf Tryd.f42) (H := F42.Ht call lf ro) (J := F42.Ut call lf ro) rfl (Nat.le_of_ble_eq_true rfl) (hd_free rfl) (by kernel_rfl)

/-! ### internal/strconv.AppendUint: function 49 -/

noncomputable def F49.t (call : CT) (lf ro : Nat) (ax0 : Option Addr) (lx0 : Nat) (cx0 : Nat) (x1 : Int) (x2 : Int) (h : Heap) : Out :=
  ifK (x2 == 10) (ifK (decide (x1 < 100)) (bindO (call ro 61 [.int .i64 (IntKind.i64.wrap x1)] h) fun v75 h76 =>
  strK v75 fun s77 =>
  bindO (appO Tryd.prog ro 22 9 (.slice ax0 lx0 cx0) (.string s77) h76) fun v78 h79 =>
  sliceK v78 fun a80 l80 c80 =>
  Out.ok (.slice a80 l80 c80) h79) (pushJ h 1 [.int .u8 0, .int .u8 0, .int .u8 0, .int .u8 0, .int .u8 0, .int .u8 0, .int .u8 0, .int .u8 0, .int .u8 0, .int .u8 0, .int .u8 0, .int .u8 0, .int .u8 0, .int .u8 0, .int .u8 0, .int .u8 0, .int .u8 0, .int .u8 0, .int .u8 0, .int .u8 0, .int .u8 0, .int .u8 0, .int .u8 0, .int .u8 0] fun h82 =>
  bindO (call ro 62 [.int .u64 x1] h82) fun v86 h87 =>
  intK .i64 v86 fun n88 =>
  bindO (sliceO Tryd.prog 86 (.pointer (some ⟨h.next, 0, none⟩)) none (some (.int .i64 n88)) h87) fun v95 h96 =>
  sliceK v95 fun a97 l97 c97 =>
  bindO (call ro 63 [.slice a97 l97 c97, .int .u64 x1] h96) fun v98 h99 =>
  tupK v98 fun q100 =>
  nilK q100 <|
  bindO (sliceO Tryd.prog 86 (.pointer (some ⟨h.next, 0, none⟩)) none (some (.int .i64 n88)) h99) fun v107 h108 =>
  sliceK v107 fun a109 l109 c109 =>
  bindO (appO Tryd.prog ro 22 22 (.slice ax0 lx0 cx0) (.slice a109 l109 c109) h108) fun v110 h111 =>
  sliceK v110 fun a112 l112 c112 =>
  Out.ok (.slice a112 l112 c112) h111)) (bindO (call ro 64 [.slice ax0 lx0 cx0, .int .u64 x1, .int .i64 x2, .bool false, .bool true] h) fun v122 h123 =>
  tupK v122 fun q124 =>
  consK q124 fun x125 q126 =>
  sliceK x125 fun a127 l127 c127 =>
  consK q126 fun x128 q129 =>
  strK x128 fun s130 =>
  nilK q129 <|
  Out.ok (.slice a127 l127 c127) h123)

noncomputable def F49.Ht (call : CT) (lf ro : Nat) (i : Nat) (e : Env) (h : Heap) : Out := .fail
noncomputable def F49.Ut (call : CT) (lf ro : Nat) (i : Nat) : Option (Env → Heap → Out) := none

theorem F49.le (call : CT) (lf ro : Nat) (ax0 : Option Addr) (lx0 : Nat) (cx0 : Nat) (x1 : Int) (x2 : Int) (h : Heap) : LeO (F49.t call lf ro ax0 lx0 cx0 x1 x2 h) (bodyK Tryd.prog call lf ro Tryd.f49 [.slice ax0 lx0 cx0, .int .u64 x1, .int .i64 x2] h) :=
  body_le (c := codeOf Tryd.f49) (H := F49.Ht call lf ro) (J := F49.Ut call lf ro) rfl (Nat.le_of_ble_eq_true rfl) (hd_free rfl) (by kernel_rfl)

/-! ### barscan/barscanref31.fits: function 50 -/

noncomputable def F50.t (call : CT) (lf ro : Nat) (x0 : Int) (x1 : Int) (h : Heap) : Out :=
  letJ (fun (b1 : Bool) =>
  (Out.ok (.bool b1) h)) fun j2 =>
  ifK (decide (x0 ≥ 1)) (ifK (decide (x0 ≤ 4096)) (ifK (decide (x1 ≥ 1)) (ifK (decide (x1 ≤ 4096)) (j2 (decide (IntKind.i64.wrap (x0 * x1) ≤ 4194304))) (j2 false)) (j2 false)) (j2 false)) (j2 false)

noncomputable def F50.Ht (call : CT) (lf ro : Nat) (i : Nat) (e : Env) (h : Heap) : Out := .fail
noncomputable def F50.Ut (call : CT) (lf ro : Nat) (i : Nat) : Option (Env → Heap → Out) := none

theorem F50.le (call : CT) (lf ro : Nat) (x0 : Int) (x1 : Int) (h : Heap) : LeO (F50.t call lf ro x0 x1 h) (bodyK Tryd.prog call lf ro Tryd.f50 [.int .i64 x0, .int .i64 x1] h) :=
  body_le (c := codeOf Tryd.f50) (H := F50.Ht call lf ro) (J := F50.Ut call lf ro) rfl (Nat.le_of_ble_eq_true rfl) (hd_free rfl) (by kernel_rfl)

/-! ### internal/strconv.small: function 61 -/

noncomputable def F61.t (call : CT) (lf ro : Nat) (x0 : Int) (h : Heap) : Out :=
  ifK (decide (x0 < 10)) (bindO (sliceO Tryd.prog 9 (.string (⟨#[48, 49, 50, 51, 52, 53, 54, 55, 56, 57, 97, 98, 99, 100, 101, 102, 103, 104, 105, 106, 107, 108, 109, 110, 111, 112, 113, 114, 115, 116, 117, 118, 119, 120, 121, 122]⟩ : ByteArray)) (some (.int .i64 x0)) (some (.int .i64 (IntKind.i64.wrap (x0 + 1)))) h) fun v10 h11 =>
  strK v10 fun s12 =>
  Out.ok (.string s12) h11) (bindO (sliceO Tryd.prog 9 (.string (⟨#[48, 48, 48, 49, 48, 50, 48, 51, 48, 52, 48, 53, 48, 54, 48, 55, 48, 56, 48, 57, 49, 48, 49, 49, 49, 50, 49, 51, 49, 52, 49, 53, 49, 54, 49, 55, 49, 56, 49, 57, 50, 48, 50, 49, 50, 50, 50, 51, 50, 52, 50, 53, 50, 54, 50, 55, 50, 56, 50, 57, 51, 48, 51, 49, 51, 50, 51, 51, 51, 52, 51, 53, 51, 54, 51, 55, 51, 56, 51, 57, 52, 48, 52, 49, 52, 50, 52, 51, 52, 52, 52, 53, 52, 54, 52, 55, 52, 56, 52, 57, 53, 48, 53, 49, 53, 50, 53, 51, 53, 52, 53, 53, 53, 54, 53, 55, 53, 56, 53, 57, 54, 48, 54, 49, 54, 50, 54, 51, 54, 52, 54, 53, 54, 54, 54, 55, 54, 56, 54, 57, 55, 48, 55, 49, 55, 50, 55, 51, 55, 52, 55, 53, 55, 54, 55, 55, 55, 56, 55, 57, 56, 48, 56, 49, 56, 50, 56, 51, 56, 52, 56, 53, 56, 54, 56, 55, 56, 56, 56, 57, 57, 48, 57, 49, 57, 50, 57, 51, 57, 52, 57, 53, 57, 54, 57, 55, 57, 56, 57, 57]⟩ : ByteArray)) (some (.int .i64 (IntKind.i64.wrap (x0 * 2)))) (some (.int .i64 (IntKind.i64.wrap ((IntKind.i64.wrap (x0 * 2)) + 2)))) h) fun v16 h17 =>
  strK v16 fun s18 =>
  Out.ok (.string s18) h17)

noncomputable def F61.Ht (call : CT) (lf ro : Nat) (i : Nat) (e : Env) (h : Heap) : Out := .fail
noncomputable def F61.Ut (call : CT) (lf ro : Nat) (i : Nat) : Option (Env → Heap → Out) := none

theorem F61.le (call : CT) (lf ro : Nat) (x0 : Int) (h : Heap) : LeO (F61.t call lf ro x0 h) (bodyK Tryd.prog call lf ro Tryd.f61 [.int .i64 x0] h) :=
  body_le (c := codeOf Tryd.f61) (H := F61.Ht call lf ro) (J := F61.Ut call lf ro) rfl (Nat.le_of_ble_eq_true rfl) (hd_free rfl) (by kernel_rfl)

/-! ### internal/strconv.numDigits: function 62 -/

noncomputable def F62.t (call : CT) (lf ro : Nat) (x0 : Int) (h : Heap) : Out :=
  bindO (call ro 71 [.int .u64 x0] h) fun v7 h8 =>
  intK .i64 v7 fun n9 =>
  bindO (call ro 70 [.int .i64 n9] h8) fun v10 h11 =>
  intK .i64 v10 fun n12 =>
  bindO (idxO Tryd.prog 95 (.pointer (some ⟨0, 0, none⟩)) (.int .i64 n12) h11) fun v21 h22 =>
  bindO (loadO Tryd.prog 74 v21 h22) fun v23 h24 =>
  intK .u64 v23 fun n25 =>
  bindO (call ro 72 [.bool (decide (x0 ≥ n25))] h24) fun v26 h27 =>
  intK .i64 v26 fun n28 =>
  Out.ok (.int .i64 (IntKind.i64.wrap (n12 + n28))) h27

noncomputable def F62.Ht (call : CT) (lf ro : Nat) (i : Nat) (e : Env) (h : Heap) : Out := .fail
noncomputable def F62.Ut (call : CT) (lf ro : Nat) (i : Nat) : Option (Env → Heap → Out) := none

theorem F62.le (call : CT) (lf ro : Nat) (x0 : Int) (h : Heap) : LeO (F62.t call lf ro x0 h) (bodyK Tryd.prog call lf ro Tryd.f62 [.int .u64 x0] h) :=
  body_le (c := codeOf Tryd.f62) (H := F62.Ht call lf ro) (J := F62.Ut call lf ro) rfl (Nat.le_of_ble_eq_true rfl) (hd_free rfl) (by kernel_rfl)

/-! ### internal/strconv.formatBase10: function 63 -/

noncomputable def F63.J25 (call : CT) (lf ro : Nat) (a97 : Option Addr) (l97 : Nat) (c97 : Nat) (n98 : Int) (n99 : Int) (h100 : Heap) : Out :=
  ifK (decide (n98 > 0)) (bindO (idxO Tryd.prog 22 (.slice a97 l97 c97) (.int .i64 0) h100) fun v101 h102 =>
  bindO (storeO Tryd.prog ro 5 v101 (.int .u8 (IntKind.u8.wrap (IntKind.u32.wrap (48 + n99)))) h102) fun v103 h104 =>
  Out.ok (.tuple #[]) h104) (Out.ok (.tuple #[]) h100)

noncomputable def F63.PJ25 (kb : (Option Addr) → Nat → Nat → Int → Int → Heap → Out) (e : Env) (h : Heap) : Out :=
  getK (e.get 0) fun w0 =>
  sliceK w0 fun a105 l105 c105 =>
  getK (e.get 4) fun w4 =>
  intK .i64 w4 fun n106 =>
  getK (e.get 12) fun w12 =>
  intK .u32 w12 fun n107 =>
  kb a105 l105 c105 n106 n107 h

noncomputable def F63.J20 (call : CT) (lf ro : Nat) (a65 : Option Addr) (l65 : Nat) (c65 : Nat) (n66 : Int) (n67 : Int) (h68 : Heap) : Out :=
  ifK (decide (n66 ≥ 2)) (bindN (indexO Tryd.prog 9 (.string (⟨#[48, 48, 48, 49, 48, 50, 48, 51, 48, 52, 48, 53, 48, 54, 48, 55, 48, 56, 48, 57, 49, 48, 49, 49, 49, 50, 49, 51, 49, 52, 49, 53, 49, 54, 49, 55, 49, 56, 49, 57, 50, 48, 50, 49, 50, 50, 50, 51, 50, 52, 50, 53, 50, 54, 50, 55, 50, 56, 50, 57, 51, 48, 51, 49, 51, 50, 51, 51, 51, 52, 51, 53, 51, 54, 51, 55, 51, 56, 51, 57, 52, 48, 52, 49, 52, 50, 52, 51, 52, 52, 52, 53, 52, 54, 52, 55, 52, 56, 52, 57, 53, 48, 53, 49, 53, 50, 53, 51, 53, 52, 53, 53, 53, 54, 53, 55, 53, 56, 53, 57, 54, 48, 54, 49, 54, 50, 54, 51, 54, 52, 54, 53, 54, 54, 54, 55, 54, 56, 54, 57, 55, 48, 55, 49, 55, 50, 55, 51, 55, 52, 55, 53, 55, 54, 55, 55, 55, 56, 55, 57, 56, 48, 56, 49, 56, 50, 56, 51, 56, 52, 56, 53, 56, 54, 56, 55, 56, 56, 56, 57, 57, 48, 57, 49, 57, 50, 57, 51, 57, 52, 57, 53, 57, 54, 57, 55, 57, 56, 57, 57]⟩ : ByteArray)) (.int .u32 (IntKind.u32.wrap ((IntKind.u32.wrap ((Int.tmod n67 100) * 2)) + 1))) h68) fun v83 h84 =>
  intK .u8 v83 fun n85 =>
  bindN (indexO Tryd.prog 9 (.string (⟨#[48, 48, 48, 49, 48, 50, 48, 51, 48, 52, 48, 53, 48, 54, 48, 55, 48, 56, 48, 57, 49, 48, 49, 49, 49, 50, 49, 51, 49, 52, 49, 53, 49, 54, 49, 55, 49, 56, 49, 57, 50, 48, 50, 49, 50, 50, 50, 51, 50, 52, 50, 53, 50, 54, 50, 55, 50, 56, 50, 57, 51, 48, 51, 49, 51, 50, 51, 51, 51, 52, 51, 53, 51, 54, 51, 55, 51, 56, 51, 57, 52, 48, 52, 49, 52, 50, 52, 51, 52, 52, 52, 53, 52, 54, 52, 55, 52, 56, 52, 57, 53, 48, 53, 49, 53, 50, 53, 51, 53, 52, 53, 53, 53, 54, 53, 55, 53, 56, 53, 57, 54, 48, 54, 49, 54, 50, 54, 51, 54, 52, 54, 53, 54, 54, 54, 55, 54, 56, 54, 57, 55, 48, 55, 49, 55, 50, 55, 51, 55, 52, 55, 53, 55, 54, 55, 55, 55, 56, 55, 57, 56, 48, 56, 49, 56, 50, 56, 51, 56, 52, 56, 53, 56, 54, 56, 55, 56, 56, 56, 57, 57, 48, 57, 49, 57, 50, 57, 51, 57, 52, 57, 53, 57, 54, 57, 55, 57, 56, 57, 57]⟩ : ByteArray)) (.int .u32 (IntKind.u32.wrap ((Int.tmod n67 100) * 2))) h84) fun v86 h87 =>
  intK .u8 v86 fun n88 =>
  bindN (idxO Tryd.prog 22 (.slice a65 l65 c65) (.int .i64 (IntKind.i64.wrap (n66 - 1))) h87) fun v89 h90 =>
  bindN (storeO Tryd.prog ro 5 v89 (.int .u8 n85) h90) fun v91 h92 =>
  bindO (idxO Tryd.prog 22 (.slice a65 l65 c65) (.int .i64 (IntKind.i64.wrap (n66 - 2))) h92) fun v93 h94 =>
  bindO (storeO Tryd.prog ro 5 v93 (.int .u8 n88) h94) fun v95 h96 =>
  F63.J25 call lf ro a65 l65 c65 (IntKind.i64.wrap (n66 - 2)) (IntKind.u32.wrap (Int.tdiv n67 100)) h96) (F63.J25 call lf ro a65 l65 c65 n66 n67 h68)

noncomputable def F63.PJ20 (kb : (Option Addr) → Nat → Nat → Int → Int → Heap → Out) (e : Env) (h : Heap) : Out :=
  getK (e.get 0) fun w0 =>
  sliceK w0 fun a108 l108 c108 =>
  getK (e.get 4) fun w4 =>
  intK .i64 w4 fun n109 =>
  getK (e.get 12) fun w12 =>
  intK .u32 w12 fun n110 =>
  kb a108 l108 c108 n109 n110 h

noncomputable def F63.J12 (call : CT) (lf ro : Nat) (a5 : Option Addr) (l5 : Nat) (c5 : Nat) (n6 : Int) (n7 : Int) (h8 : Heap) : Out :=
  ifK (decide (n7 ≥ 4)) (bindN (indexO Tryd.prog 9 (.string (⟨#[48, 48, 48, 49, 48, 50, 48, 51, 48, 52, 48, 53, 48, 54, 48, 55, 48, 56, 48, 57, 49, 48, 49, 49, 49, 50, 49, 51, 49, 52, 49, 53, 49, 54, 49, 55, 49, 56, 49, 57, 50, 48, 50, 49, 50, 50, 50, 51, 50, 52, 50, 53, 50, 54, 50, 55, 50, 56, 50, 57, 51, 48, 51, 49, 51, 50, 51, 51, 51, 52, 51, 53, 51, 54, 51, 55, 51, 56, 51, 57, 52, 48, 52, 49, 52, 50, 52, 51, 52, 52, 52, 53, 52, 54, 52, 55, 52, 56, 52, 57, 53, 48, 53, 49, 53, 50, 53, 51, 53, 52, 53, 53, 53, 54, 53, 55, 53, 56, 53, 57, 54, 48, 54, 49, 54, 50, 54, 51, 54, 52, 54, 53, 54, 54, 54, 55, 54, 56, 54, 57, 55, 48, 55, 49, 55, 50, 55, 51, 55, 52, 55, 53, 55, 54, 55, 55, 55, 56, 55, 57, 56, 48, 56, 49, 56, 50, 56, 51, 56, 52, 56, 53, 56, 54, 56, 55, 56, 56, 56, 57, 57, 48, 57, 49, 57, 50, 57, 51, 57, 52, 57, 53, 57, 54, 57, 55, 57, 56, 57, 57]⟩ : ByteArray)) (.int .u32 (IntKind.u32.wrap ((IntKind.u32.wrap ((Int.tmod (Int.tmod (IntKind.u32.wrap n6) 10000) 100) * 2)) + 1))) h8) fun v23 h24 =>
  intK .u8 v23 fun n25 =>
  bindN (indexO Tryd.prog 9 (.string (⟨#[48, 48, 48, 49, 48, 50, 48, 51, 48, 52, 48, 53, 48, 54, 48, 55, 48, 56, 48, 57, 49, 48, 49, 49, 49, 50, 49, 51, 49, 52, 49, 53, 49, 54, 49, 55, 49, 56, 49, 57, 50, 48, 50, 49, 50, 50, 50, 51, 50, 52, 50, 53, 50, 54, 50, 55, 50, 56, 50, 57, 51, 48, 51, 49, 51, 50, 51, 51, 51, 52, 51, 53, 51, 54, 51, 55, 51, 56, 51, 57, 52, 48, 52, 49, 52, 50, 52, 51, 52, 52, 52, 53, 52, 54, 52, 55, 52, 56, 52, 57, 53, 48, 53, 49, 53, 50, 53, 51, 53, 52, 53, 53, 53, 54, 53, 55, 53, 56, 53, 57, 54, 48, 54, 49, 54, 50, 54, 51, 54, 52, 54, 53, 54, 54, 54, 55, 54, 56, 54, 57, 55, 48, 55, 49, 55, 50, 55, 51, 55, 52, 55, 53, 55, 54, 55, 55, 55, 56, 55, 57, 56, 48, 56, 49, 56, 50, 56, 51, 56, 52, 56, 53, 56, 54, 56, 55, 56, 56, 56, 57, 57, 48, 57, 49, 57, 50, 57, 51, 57, 52, 57, 53, 57, 54, 57, 55, 57, 56, 57, 57]⟩ : ByteArray)) (.int .u32 (IntKind.u32.wrap ((Int.tmod (Int.tmod (IntKind.u32.wrap n6) 10000) 100) * 2))) h24) fun v26 h27 =>
  intK .u8 v26 fun n28 =>
  bindN (idxO Tryd.prog 22 (.slice a5 l5 c5) (.int .i64 (IntKind.i64.wrap (n7 - 1))) h27) fun v29 h30 =>
  bindN (storeO Tryd.prog ro 5 v29 (.int .u8 n25) h30) fun v31 h32 =>
  bindO (idxO Tryd.prog 22 (.slice a5 l5 c5) (.int .i64 (IntKind.i64.wrap (n7 - 2))) h32) fun v33 h34 =>
  bindO (storeO Tryd.prog ro 5 v33 (.int .u8 n28) h34) fun v35 h36 =>
  bindN (indexO Tryd.prog 9 (.string (⟨#[48, 48, 48, 49, 48, 50, 48, 51, 48, 52, 48, 53, 48, 54, 48, 55, 48, 56, 48, 57, 49, 48, 49, 49, 49, 50, 49, 51, 49, 52, 49, 53, 49, 54, 49, 55, 49, 56, 49, 57, 50, 48, 50, 49, 50, 50, 50, 51, 50, 52, 50, 53, 50, 54, 50, 55, 50, 56, 50, 57, 51, 48, 51, 49, 51, 50, 51, 51, 51, 52, 51, 53, 51, 54, 51, 55, 51, 56, 51, 57, 52, 48, 52, 49, 52, 50, 52, 51, 52, 52, 52, 53, 52, 54, 52, 55, 52, 56, 52, 57, 53, 48, 53, 49, 53, 50, 53, 51, 53, 52, 53, 53, 53, 54, 53, 55, 53, 56, 53, 57, 54, 48, 54, 49, 54, 50, 54, 51, 54, 52, 54, 53, 54, 54, 54, 55, 54, 56, 54, 57, 55, 48, 55, 49, 55, 50, 55, 51, 55, 52, 55, 53, 55, 54, 55, 55, 55, 56, 55, 57, 56, 48, 56, 49, 56, 50, 56, 51, 56, 52, 56, 53, 56, 54, 56, 55, 56, 56, 56, 57, 57, 48, 57, 49, 57, 50, 57, 51, 57, 52, 57, 53, 57, 54, 57, 55, 57, 56, 57, 57]⟩ : ByteArray)) (.int .u32 (IntKind.u32.wrap ((IntKind.u32.wrap ((IntKind.u32.wrap (Int.tdiv (Int.tmod (IntKind.u32.wrap n6) 10000) 100)) * 2)) + 1))) h36) fun v51 h52 =>
  intK .u8 v51 fun n53 =>
  bindN (indexO Tryd.prog 9 (.string (⟨#[48, 48, 48, 49, 48, 50, 48, 51, 48, 52, 48, 53, 48, 54, 48, 55, 48, 56, 48, 57, 49, 48, 49, 49, 49, 50, 49, 51, 49, 52, 49, 53, 49, 54, 49, 55, 49, 56, 49, 57, 50, 48, 50, 49, 50, 50, 50, 51, 50, 52, 50, 53, 50, 54, 50, 55, 50, 56, 50, 57, 51, 48, 51, 49, 51, 50, 51, 51, 51, 52, 51, 53, 51, 54, 51, 55, 51, 56, 51, 57, 52, 48, 52, 49, 52, 50, 52, 51, 52, 52, 52, 53, 52, 54, 52, 55, 52, 56, 52, 57, 53, 48, 53, 49, 53, 50, 53, 51, 53, 52, 53, 53, 53, 54, 53, 55, 53, 56, 53, 57, 54, 48, 54, 49, 54, 50, 54, 51, 54, 52, 54, 53, 54, 54, 54, 55, 54, 56, 54, 57, 55, 48, 55, 49, 55, 50, 55, 51, 55, 52, 55, 53, 55, 54, 55, 55, 55, 56, 55, 57, 56, 48, 56, 49, 56, 50, 56, 51, 56, 52, 56, 53, 56, 54, 56, 55, 56, 56, 56, 57, 57, 48, 57, 49, 57, 50, 57, 51, 57, 52, 57, 53, 57, 54, 57, 55, 57, 56, 57, 57]⟩ : ByteArray)) (.int .u32 (IntKind.u32.wrap ((IntKind.u32.wrap (Int.tdiv (Int.tmod (IntKind.u32.wrap n6) 10000) 100)) * 2))) h52) fun v54 h55 =>
  intK .u8 v54 fun n56 =>
  bindN (idxO Tryd.prog 22 (.slice a5 l5 c5) (.int .i64 (IntKind.i64.wrap (n7 - 3))) h55) fun v57 h58 =>
  bindN (storeO Tryd.prog ro 5 v57 (.int .u8 n53) h58) fun v59 h60 =>
  bindO (idxO Tryd.prog 22 (.slice a5 l5 c5) (.int .i64 (IntKind.i64.wrap (n7 - 4))) h60) fun v61 h62 =>
  bindO (storeO Tryd.prog ro 5 v61 (.int .u8 n56) h62) fun v63 h64 =>
  F63.J20 call lf ro a5 l5 c5 (IntKind.i64.wrap (n7 - 4)) (IntKind.u32.wrap (Int.tdiv (IntKind.u32.wrap n6) 10000)) h64) (F63.J20 call lf ro a5 l5 c5 n7 (IntKind.u32.wrap n6) h8)

noncomputable def F63.PJ12 (kb : (Option Addr) → Nat → Nat → Int → Int → Heap → Out) (e : Env) (h : Heap) : Out :=
  getK (e.get 0) fun w0 =>
  sliceK w0 fun a111 l111 c111 =>
  getK (e.get 1) fun w1 =>
  intK .u64 w1 fun n112 =>
  getK (e.get 4) fun w4 =>
  intK .i64 w4 fun n113 =>
  kb a111 l111 c111 n112 n113 h

noncomputable def F63.L1 (call : CT) (lf ro : Nat) : Nat → (Option Addr) → Nat → Nat → Int → Int → Heap → Out
  | 0, _, _, _, _, _, _ => .fail
  | n + 1, a1, l1, c1, n2, n3, h4 =>
  ifK (decide (n3 ≥ 8)) (bindN (indexO Tryd.prog 9 (.string (⟨#[48, 48, 48, 49, 48, 50, 48, 51, 48, 52, 48, 53, 48, 54, 48, 55, 48, 56, 48, 57, 49, 48, 49, 49, 49, 50, 49, 51, 49, 52, 49, 53, 49, 54, 49, 55, 49, 56, 49, 57, 50, 48, 50, 49, 50, 50, 50, 51, 50, 52, 50, 53, 50, 54, 50, 55, 50, 56, 50, 57, 51, 48, 51, 49, 51, 50, 51, 51, 51, 52, 51, 53, 51, 54, 51, 55, 51, 56, 51, 57, 52, 48, 52, 49, 52, 50, 52, 51, 52, 52, 52, 53, 52, 54, 52, 55, 52, 56, 52, 57, 53, 48, 53, 49, 53, 50, 53, 51, 53, 52, 53, 53, 53, 54, 53, 55, 53, 56, 53, 57, 54, 48, 54, 49, 54, 50, 54, 51, 54, 52, 54, 53, 54, 54, 54, 55, 54, 56, 54, 57, 55, 48, 55, 49, 55, 50, 55, 51, 55, 52, 55, 53, 55, 54, 55, 55, 55, 56, 55, 57, 56, 48, 56, 49, 56, 50, 56, 51, 56, 52, 56, 53, 56, 54, 56, 55, 56, 56, 56, 57, 57, 48, 57, 49, 57, 50, 57, 51, 57, 52, 57, 53, 57, 54, 57, 55, 57, 56, 57, 57]⟩ : ByteArray)) (.int .u32 (IntKind.u32.wrap ((IntKind.u32.wrap ((Int.tmod (Int.tmod (IntKind.u32.wrap (Int.tmod n2 100000000)) 10000) 100) * 2)) + 1))) h4) fun v128 h129 =>
  intK .u8 v128 fun n130 =>
  bindN (indexO Tryd.prog 9 (.string (⟨#[48, 48, 48, 49, 48, 50, 48, 51, 48, 52, 48, 53, 48, 54, 48, 55, 48, 56, 48, 57, 49, 48, 49, 49, 49, 50, 49, 51, 49, 52, 49, 53, 49, 54, 49, 55, 49, 56, 49, 57, 50, 48, 50, 49, 50, 50, 50, 51, 50, 52, 50, 53, 50, 54, 50, 55, 50, 56, 50, 57, 51, 48, 51, 49, 51, 50, 51, 51, 51, 52, 51, 53, 51, 54, 51, 55, 51, 56, 51, 57, 52, 48, 52, 49, 52, 50, 52, 51, 52, 52, 52, 53, 52, 54, 52, 55, 52, 56, 52, 57, 53, 48, 53, 49, 53, 50, 53, 51, 53, 52, 53, 53, 53, 54, 53, 55, 53, 56, 53, 57, 54, 48, 54, 49, 54, 50, 54, 51, 54, 52, 54, 53, 54, 54, 54, 55, 54, 56, 54, 57, 55, 48, 55, 49, 55, 50, 55, 51, 55, 52, 55, 53, 55, 54, 55, 55, 55, 56, 55, 57, 56, 48, 56, 49, 56, 50, 56, 51, 56, 52, 56, 53, 56, 54, 56, 55, 56, 56, 56, 57, 57, 48, 57, 49, 57, 50, 57, 51, 57, 52, 57, 53, 57, 54, 57, 55, 57, 56, 57, 57]⟩ : ByteArray)) (.int .u32 (IntKind.u32.wrap ((Int.tmod (Int.tmod (IntKind.u32.wrap (Int.tmod n2 100000000)) 10000) 100) * 2))) h129) fun v131 h132 =>
  intK .u8 v131 fun n133 =>
  bindN (idxO Tryd.prog 22 (.slice a1 l1 c1) (.int .i64 (IntKind.i64.wrap (n3 - 1))) h132) fun v134 h135 =>
  bindN (storeO Tryd.prog ro 5 v134 (.int .u8 n130) h135) fun v136 h137 =>
  bindO (idxO Tryd.prog 22 (.slice a1 l1 c1) (.int .i64 (IntKind.i64.wrap (n3 - 2))) h137) fun v138 h139 =>
  bindO (storeO Tryd.prog ro 5 v138 (.int .u8 n133) h139) fun v140 h141 =>
  bindN (indexO Tryd.prog 9 (.string (⟨#[48, 48, 48, 49, 48, 50, 48, 51, 48, 52, 48, 53, 48, 54, 48, 55, 48, 56, 48, 57, 49, 48, 49, 49, 49, 50, 49, 51, 49, 52, 49, 53, 49, 54, 49, 55, 49, 56, 49, 57, 50, 48, 50, 49, 50, 50, 50, 51, 50, 52, 50, 53, 50, 54, 50, 55, 50, 56, 50, 57, 51, 48, 51, 49, 51, 50, 51, 51, 51, 52, 51, 53, 51, 54, 51, 55, 51, 56, 51, 57, 52, 48, 52, 49, 52, 50, 52, 51, 52, 52, 52, 53, 52, 54, 52, 55, 52, 56, 52, 57, 53, 48, 53, 49, 53, 50, 53, 51, 53, 52, 53, 53, 53, 54, 53, 55, 53, 56, 53, 57, 54, 48, 54, 49, 54, 50, 54, 51, 54, 52, 54, 53, 54, 54, 54, 55, 54, 56, 54, 57, 55, 48, 55, 49, 55, 50, 55, 51, 55, 52, 55, 53, 55, 54, 55, 55, 55, 56, 55, 57, 56, 48, 56, 49, 56, 50, 56, 51, 56, 52, 56, 53, 56, 54, 56, 55, 56, 56, 56, 57, 57, 48, 57, 49, 57, 50, 57, 51, 57, 52, 57, 53, 57, 54, 57, 55, 57, 56, 57, 57]⟩ : ByteArray)) (.int .u32 (IntKind.u32.wrap ((IntKind.u32.wrap ((IntKind.u32.wrap (Int.tdiv (Int.tmod (IntKind.u32.wrap (Int.tmod n2 100000000)) 10000) 100)) * 2)) + 1))) h141) fun v156 h157 =>
  intK .u8 v156 fun n158 =>
  bindN (indexO Tryd.prog 9 (.string (⟨#[48, 48, 48, 49, 48, 50, 48, 51, 48, 52, 48, 53, 48, 54, 48, 55, 48, 56, 48, 57, 49, 48, 49, 49, 49, 50, 49, 51, 49, 52, 49, 53, 49, 54, 49, 55, 49, 56, 49, 57, 50, 48, 50, 49, 50, 50, 50, 51, 50, 52, 50, 53, 50, 54, 50, 55, 50, 56, 50, 57, 51, 48, 51, 49, 51, 50, 51, 51, 51, 52, 51, 53, 51, 54, 51, 55, 51, 56, 51, 57, 52, 48, 52, 49, 52, 50, 52, 51, 52, 52, 52, 53, 52, 54, 52, 55, 52, 56, 52, 57, 53, 48, 53, 49, 53, 50, 53, 51, 53, 52, 53, 53, 53, 54, 53, 55, 53, 56, 53, 57, 54, 48, 54, 49, 54, 50, 54, 51, 54, 52, 54, 53, 54, 54, 54, 55, 54, 56, 54, 57, 55, 48, 55, 49, 55, 50, 55, 51, 55, 52, 55, 53, 55, 54, 55, 55, 55, 56, 55, 57, 56, 48, 56, 49, 56, 50, 56, 51, 56, 52, 56, 53, 56, 54, 56, 55, 56, 56, 56, 57, 57, 48, 57, 49, 57, 50, 57, 51, 57, 52, 57, 53, 57, 54, 57, 55, 57, 56, 57, 57]⟩ : ByteArray)) (.int .u32 (IntKind.u32.wrap ((IntKind.u32.wrap (Int.tdiv (Int.tmod (IntKind.u32.wrap (Int.tmod n2 100000000)) 10000) 100)) * 2))) h157) fun v159 h160 =>
  intK .u8 v159 fun n161 =>
  bindN (idxO Tryd.prog 22 (.slice a1 l1 c1) (.int .i64 (IntKind.i64.wrap (n3 - 3))) h160) fun v162 h163 =>
  bindN (storeO Tryd.prog ro 5 v162 (.int .u8 n158) h163) fun v164 h165 =>
  bindO (idxO Tryd.prog 22 (.slice a1 l1 c1) (.int .i64 (IntKind.i64.wrap (n3 - 4))) h165) fun v166 h167 =>
  bindO (storeO Tryd.prog ro 5 v166 (.int .u8 n161) h167) fun v168 h169 =>
  bindN (indexO Tryd.prog 9 (.string (⟨#[48, 48, 48, 49, 48, 50, 48, 51, 48, 52, 48, 53, 48, 54, 48, 55, 48, 56, 48, 57, 49, 48, 49, 49, 49, 50, 49, 51, 49, 52, 49, 53, 49, 54, 49, 55, 49, 56, 49, 57, 50, 48, 50, 49, 50, 50, 50, 51, 50, 52, 50, 53, 50, 54, 50, 55, 50, 56, 50, 57, 51, 48, 51, 49, 51, 50, 51, 51, 51, 52, 51, 53, 51, 54, 51, 55, 51, 56, 51, 57, 52, 48, 52, 49, 52, 50, 52, 51, 52, 52, 52, 53, 52, 54, 52, 55, 52, 56, 52, 57, 53, 48, 53, 49, 53, 50, 53, 51, 53, 52, 53, 53, 53, 54, 53, 55, 53, 56, 53, 57, 54, 48, 54, 49, 54, 50, 54, 51, 54, 52, 54, 53, 54, 54, 54, 55, 54, 56, 54, 57, 55, 48, 55, 49, 55, 50, 55, 51, 55, 52, 55, 53, 55, 54, 55, 55, 55, 56, 55, 57, 56, 48, 56, 49, 56, 50, 56, 51, 56, 52, 56, 53, 56, 54, 56, 55, 56, 56, 56, 57, 57, 48, 57, 49, 57, 50, 57, 51, 57, 52, 57, 53, 57, 54, 57, 55, 57, 56, 57, 57]⟩ : ByteArray)) (.int .u32 (IntKind.u32.wrap ((IntKind.u32.wrap ((Int.tmod (IntKind.u32.wrap (Int.tdiv (IntKind.u32.wrap (Int.tmod n2 100000000)) 10000)) 100) * 2)) + 1))) h169) fun v184 h185 =>
  intK .u8 v184 fun n186 =>
  bindN (indexO Tryd.prog 9 (.string (⟨#[48, 48, 48, 49, 48, 50, 48, 51, 48, 52, 48, 53, 48, 54, 48, 55, 48, 56, 48, 57, 49, 48, 49, 49, 49, 50, 49, 51, 49, 52, 49, 53, 49, 54, 49, 55, 49, 56, 49, 57, 50, 48, 50, 49, 50, 50, 50, 51, 50, 52, 50, 53, 50, 54, 50, 55, 50, 56, 50, 57, 51, 48, 51, 49, 51, 50, 51, 51, 51, 52, 51, 53, 51, 54, 51, 55, 51, 56, 51, 57, 52, 48, 52, 49, 52, 50, 52, 51, 52, 52, 52, 53, 52, 54, 52, 55, 52, 56, 52, 57, 53, 48, 53, 49, 53, 50, 53, 51, 53, 52, 53, 53, 53, 54, 53, 55, 53, 56, 53, 57, 54, 48, 54, 49, 54, 50, 54, 51, 54, 52, 54, 53, 54, 54, 54, 55, 54, 56, 54, 57, 55, 48, 55, 49, 55, 50, 55, 51, 55, 52, 55, 53, 55, 54, 55, 55, 55, 56, 55, 57, 56, 48, 56, 49, 56, 50, 56, 51, 56, 52, 56, 53, 56, 54, 56, 55, 56, 56, 56, 57, 57, 48, 57, 49, 57, 50, 57, 51, 57, 52, 57, 53, 57, 54, 57, 55, 57, 56, 57, 57]⟩ : ByteArray)) (.int .u32 (IntKind.u32.wrap ((Int.tmod (IntKind.u32.wrap (Int.tdiv (IntKind.u32.wrap (Int.tmod n2 100000000)) 10000)) 100) * 2))) h185) fun v187 h188 =>
  intK .u8 v187 fun n189 =>
  bindN (idxO Tryd.prog 22 (.slice a1 l1 c1) (.int .i64 (IntKind.i64.wrap (n3 - 5))) h188) fun v190 h191 =>
  bindN (storeO Tryd.prog ro 5 v190 (.int .u8 n186) h191) fun v192 h193 =>
  bindO (idxO Tryd.prog 22 (.slice a1 l1 c1) (.int .i64 (IntKind.i64.wrap (n3 - 6))) h193) fun v194 h195 =>
  bindO (storeO Tryd.prog ro 5 v194 (.int .u8 n189) h195) fun v196 h197 =>
  bindN (indexO Tryd.prog 9 (.string (⟨#[48, 48, 48, 49, 48, 50, 48, 51, 48, 52, 48, 53, 48, 54, 48, 55, 48, 56, 48, 57, 49, 48, 49, 49, 49, 50, 49, 51, 49, 52, 49, 53, 49, 54, 49, 55, 49, 56, 49, 57, 50, 48, 50, 49, 50, 50, 50, 51, 50, 52, 50, 53, 50, 54, 50, 55, 50, 56, 50, 57, 51, 48, 51, 49, 51, 50, 51, 51, 51, 52, 51, 53, 51, 54, 51, 55, 51, 56, 51, 57, 52, 48, 52, 49, 52, 50, 52, 51, 52, 52, 52, 53, 52, 54, 52, 55, 52, 56, 52, 57, 53, 48, 53, 49, 53, 50, 53, 51, 53, 52, 53, 53, 53, 54, 53, 55, 53, 56, 53, 57, 54, 48, 54, 49, 54, 50, 54, 51, 54, 52, 54, 53, 54, 54, 54, 55, 54, 56, 54, 57, 55, 48, 55, 49, 55, 50, 55, 51, 55, 52, 55, 53, 55, 54, 55, 55, 55, 56, 55, 57, 56, 48, 56, 49, 56, 50, 56, 51, 56, 52, 56, 53, 56, 54, 56, 55, 56, 56, 56, 57, 57, 48, 57, 49, 57, 50, 57, 51, 57, 52, 57, 53, 57, 54, 57, 55, 57, 56, 57, 57]⟩ : ByteArray)) (.int .u32 (IntKind.u32.wrap ((IntKind.u32.wrap ((IntKind.u32.wrap (Int.tdiv (IntKind.u32.wrap (Int.tdiv (IntKind.u32.wrap (Int.tmod n2 100000000)) 10000)) 100)) * 2)) + 1))) h197) fun v212 h213 =>
  intK .u8 v212 fun n214 =>
  bindN (indexO Tryd.prog 9 (.string (⟨#[48, 48, 48, 49, 48, 50, 48, 51, 48, 52, 48, 53, 48, 54, 48, 55, 48, 56, 48, 57, 49, 48, 49, 49, 49, 50, 49, 51, 49, 52, 49, 53, 49, 54, 49, 55, 49, 56, 49, 57, 50, 48, 50, 49, 50, 50, 50, 51, 50, 52, 50, 53, 50, 54, 50, 55, 50, 56, 50, 57, 51, 48, 51, 49, 51, 50, 51, 51, 51, 52, 51, 53, 51, 54, 51, 55, 51, 56, 51, 57, 52, 48, 52, 49, 52, 50, 52, 51, 52, 52, 52, 53, 52, 54, 52, 55, 52, 56, 52, 57, 53, 48, 53, 49, 53, 50, 53, 51, 53, 52, 53, 53, 53, 54, 53, 55, 53, 56, 53, 57, 54, 48, 54, 49, 54, 50, 54, 51, 54, 52, 54, 53, 54, 54, 54, 55, 54, 56, 54, 57, 55, 48, 55, 49, 55, 50, 55, 51, 55, 52, 55, 53, 55, 54, 55, 55, 55, 56, 55, 57, 56, 48, 56, 49, 56, 50, 56, 51, 56, 52, 56, 53, 56, 54, 56, 55, 56, 56, 56, 57, 57, 48, 57, 49, 57, 50, 57, 51, 57, 52, 57, 53, 57, 54, 57, 55, 57, 56, 57, 57]⟩ : ByteArray)) (.int .u32 (IntKind.u32.wrap ((IntKind.u32.wrap (Int.tdiv (IntKind.u32.wrap (Int.tdiv (IntKind.u32.wrap (Int.tmod n2 100000000)) 10000)) 100)) * 2))) h213) fun v215 h216 =>
  intK .u8 v215 fun n217 =>
  bindN (idxO Tryd.prog 22 (.slice a1 l1 c1) (.int .i64 (IntKind.i64.wrap (n3 - 7))) h216) fun v218 h219 =>
  bindN (storeO Tryd.prog ro 5 v218 (.int .u8 n214) h219) fun v220 h221 =>
  bindO (idxO Tryd.prog 22 (.slice a1 l1 c1) (.int .i64 (IntKind.i64.wrap (n3 - 8))) h221) fun v222 h223 =>
  bindO (storeO Tryd.prog ro 5 v222 (.int .u8 n217) h223) fun v224 h225 =>
  F63.L1 call lf ro n a1 l1 c1 (IntKind.u64.wrap (Int.tdiv n2 100000000)) (IntKind.i64.wrap (n3 - 8)) h225) (F63.J12 call lf ro a1 l1 c1 n2 n3 h4)

noncomputable def F63.P1 (kb : (Option Addr) → Nat → Nat → Int → Int → Heap → Out) (e : Env) (h : Heap) : Out :=
  getK (e.get 0) fun w0 =>
  sliceK w0 fun a226 l226 c226 =>
  getK (e.get 1) fun w1 =>
  intK .u64 w1 fun n227 =>
  getK (e.get 4) fun w4 =>
  intK .i64 w4 fun n228 =>
  kb a226 l226 c226 n227 n228 h

noncomputable def F63.t (call : CT) (lf ro : Nat) (ax0 : Option Addr) (lx0 : Nat) (cx0 : Nat) (x1 : Int) (h : Heap) : Out :=
  F63.L1 call lf ro lf ax0 lx0 cx0 x1 (lx0 : Int) h

noncomputable def F63.Ht (call : CT) (lf ro : Nat) (i : Nat) (e : Env) (h : Heap) : Out := ifK (i == 1) (F63.P1 (F63.L1 call lf ro lf) e h) (.fail)
noncomputable def F63.Ut (call : CT) (lf ro : Nat) (i : Nat) : Option (Env → Heap → Out) := ifJ (i == 25) (some (F63.PJ25 (F63.J25 call lf ro))) (ifJ (i == 20) (some (F63.PJ20 (F63.J20 call lf ro))) (ifJ (i == 12) (some (F63.PJ12 (F63.J12 call lf ro))) (none)))

noncomputable def F63.H1 (call : CT) (lf ro : Nat) (kb1 : (Option Addr) → Nat → Nat → Int → Int → Heap → Out) (i : Nat) (e : Env) (h : Heap) : Out := ifK (i == 1) (F63.P1 (F63.L1 call lf ro lf) e h) (.fail)
noncomputable def F63.U1 (call : CT) (lf ro : Nat) (kb1 : (Option Addr) → Nat → Nat → Int → Int → Heap → Out) (i : Nat) : Option (Env → Heap → Out) := ifJ (i == 25) (some (F63.PJ25 (F63.J25 call lf ro))) (ifJ (i == 20) (some (F63.PJ20 (F63.J20 call lf ro))) (ifJ (i == 12) (some (F63.PJ12 (F63.J12 call lf ro))) (none)))

noncomputable def F63.C1 (call : CT) (lf ro : Nat) : COut → Out := blockK 0 (seqH Tryd.prog call ro (F63.Ht call lf ro) (F63.Ut call lf ro) (sub (codeOf Tryd.f63) [true, true]) (endK Tryd.prog Tryd.f63))

noncomputable def F63.K1 (call : CT) (lf ro : Nat) : COut → Out := blockK 0 (seqK Tryd.prog call lf ro (sub (codeOf Tryd.f63) [true, true]) (endK Tryd.prog Tryd.f63))

noncomputable def F63.CJ25 (call : CT) (lf ro : Nat) : COut → Out := endK Tryd.prog Tryd.f63

noncomputable def F63.KJ25 (call : CT) (lf ro : Nat) : COut → Out := endK Tryd.prog Tryd.f63

noncomputable def F63.CJ20 (call : CT) (lf ro : Nat) : COut → Out := endK Tryd.prog Tryd.f63

noncomputable def F63.KJ20 (call : CT) (lf ro : Nat) : COut → Out := endK Tryd.prog Tryd.f63

noncomputable def F63.CJ12 (call : CT) (lf ro : Nat) : COut → Out := endK Tryd.prog Tryd.f63

noncomputable def F63.KJ12 (call : CT) (lf ro : Nat) : COut → Out := endK Tryd.prog Tryd.f63

theorem F63.RJ25 (call : CT) (lf ro : Nat) (f : Nat → Option Value) (a97 : Option Addr) (l97 : Nat) (c97 : Nat) (n98 : Int) (n99 : Int) (h100 : Heap) :
    execH Tryd.prog call ro (F63.Ht call lf ro) (F63.Ut call lf ro) (sub (codeOf Tryd.f63) [true, true, true, true, true]) (EF 167 (updF (updF (updF f 0 (some (.slice a97 l97 c97))) 4 (some (.int .i64 n98))) 12 (some (.int .u32 n99)))) h100 (F63.CJ25 call lf ro) = F63.J25 call lf ro a97 l97 c97 n98 n99 h100 := by kernel_rfl

theorem F63.CKJ25 (call : CT) (lf ro : Nat) : KLe 167 (F63.CJ25 call lf ro) (F63.KJ25 call lf ro) :=
  (KLe.refl _)

theorem F63.BJ25 (call : CT) (lf ro : Nat) : ∀ e h, Shaped 167 e → LeO (F63.PJ25 (F63.J25 call lf ro) e h) (execK Tryd.prog call lf ro (sub (codeOf Tryd.f63) [true, true, true, true, true]) e h (F63.KJ25 call lf ro)) := by
    rintro e h ⟨f, rfl⟩
    unfold F63.PJ25
    refine getK_le fun w0 g0 => ?_
    rw [EF_get (by decide)] at g0
    refine sliceK_le fun a105 l105 c105 z229 => ?_
    subst z229
    refine getK_le fun w4 g4 => ?_
    rw [EF_get (by decide)] at g4
    refine intK_le fun n106 z230 => ?_
    subst z230
    refine getK_le fun w12 g12 => ?_
    rw [EF_get (by decide)] at g12
    refine intK_le fun n107 z231 => ?_
    subst z231
    have hr := F63.RJ25 call lf ro f a105 l105 c105 n106 n107 h
    rw [updF_same g0, updF_same g4, updF_same g12] at hr
    exact cut_le (H := (F63.Ht call lf ro)) (J := (F63.Ut call lf ro)) (F63.CKJ25 call lf ro) (hd_free rfl) hr

theorem F63.RJ20 (call : CT) (lf ro : Nat) (f : Nat → Option Value) (a65 : Option Addr) (l65 : Nat) (c65 : Nat) (n66 : Int) (n67 : Int) (h68 : Heap) :
    execH Tryd.prog call ro (F63.Ht call lf ro) (F63.Ut call lf ro) (sub (codeOf Tryd.f63) [true, true, true, true]) (EF 167 (updF (updF (updF f 0 (some (.slice a65 l65 c65))) 4 (some (.int .i64 n66))) 12 (some (.int .u32 n67)))) h68 (F63.CJ20 call lf ro) = F63.J20 call lf ro a65 l65 c65 n66 n67 h68 := by kernel_rfl

theorem F63.CKJ20 (call : CT) (lf ro : Nat) : KLe 167 (F63.CJ20 call lf ro) (F63.KJ20 call lf ro) :=
  (KLe.refl _)

theorem F63.BJ20 (call : CT) (lf ro : Nat) : ∀ e h, Shaped 167 e → LeO (F63.PJ20 (F63.J20 call lf ro) e h) (execK Tryd.prog call lf ro (sub (codeOf Tryd.f63) [true, true, true, true]) e h (F63.KJ20 call lf ro)) := by
    rintro e h ⟨f, rfl⟩
    unfold F63.PJ20
    refine getK_le fun w0 g0 => ?_
    rw [EF_get (by decide)] at g0
    refine sliceK_le fun a108 l108 c108 z235 => ?_
    subst z235
    refine getK_le fun w4 g4 => ?_
    rw [EF_get (by decide)] at g4
    refine intK_le fun n109 z236 => ?_
    subst z236
    refine getK_le fun w12 g12 => ?_
    rw [EF_get (by decide)] at g12
    refine intK_le fun n110 z237 => ?_
    subst z237
    have hr := F63.RJ20 call lf ro f a108 l108 c108 n109 n110 h
    rw [updF_same g0, updF_same g4, updF_same g12] at hr
    exact cut_le (H := (F63.Ht call lf ro)) (J := (F63.Ut call lf ro)) (F63.CKJ20 call lf ro) ⟨(hd_free rfl), (fun e h hs => F63.BJ25 call lf ro  e h hs)⟩ hr

theorem F63.RJ12 (call : CT) (lf ro : Nat) (f : Nat → Option Value) (a5 : Option Addr) (l5 : Nat) (c5 : Nat) (n6 : Int) (n7 : Int) (h8 : Heap) :
    execH Tryd.prog call ro (F63.Ht call lf ro) (F63.Ut call lf ro) (sub (codeOf Tryd.f63) [true, true]) (EF 167 (updF (updF (updF f 0 (some (.slice a5 l5 c5))) 1 (some (.int .u64 n6))) 4 (some (.int .i64 n7)))) h8 (F63.CJ12 call lf ro) = F63.J12 call lf ro a5 l5 c5 n6 n7 h8 := by kernel_rfl

theorem F63.CKJ12 (call : CT) (lf ro : Nat) : KLe 167 (F63.CJ12 call lf ro) (F63.KJ12 call lf ro) :=
  (KLe.refl _)

theorem F63.BJ12 (call : CT) (lf ro : Nat) : ∀ e h, Shaped 167 e → LeO (F63.PJ12 (F63.J12 call lf ro) e h) (execK Tryd.prog call lf ro (sub (codeOf Tryd.f63) [true, true]) e h (F63.KJ12 call lf ro)) := by
    rintro e h ⟨f, rfl⟩
    unfold F63.PJ12
    refine getK_le fun w0 g0 => ?_
    rw [EF_get (by decide)] at g0
    refine sliceK_le fun a111 l111 c111 z241 => ?_
    subst z241
    refine getK_le fun w1 g1 => ?_
    rw [EF_get (by decide)] at g1
    refine intK_le fun n112 z242 => ?_
    subst z242
    refine getK_le fun w4 g4 => ?_
    rw [EF_get (by decide)] at g4
    refine intK_le fun n113 z243 => ?_
    subst z243
    have hr := F63.RJ12 call lf ro f a111 l111 c111 n112 n113 h
    rw [updF_same g0, updF_same g1, updF_same g4] at hr
    exact cut_le (H := (F63.Ht call lf ro)) (J := (F63.Ut call lf ro)) (F63.CKJ12 call lf ro) ⟨(hd_free rfl), ⟨(hd_free rfl), (fun e h hs => F63.BJ20 call lf ro  e h hs)⟩⟩ hr

theorem F63.R1 (call : CT) (lf ro : Nat) (n : Nat) (f : Nat → Option Value) (a1 : Option Addr) (l1 : Nat) (c1 : Nat) (n2 : Int) (n3 : Int) (h4 : Heap) :
    execH Tryd.prog call ro (F63.H1 call lf ro (F63.L1 call lf ro n)) (F63.U1 call lf ro (F63.L1 call lf ro n)) (sub (codeOf Tryd.f63) [true, false, false, false]) (EF 167 (updF (updF (updF f 0 (some (.slice a1 l1 c1))) 1 (some (.int .u64 n2))) 4 (some (.int .i64 n3)))) h4 (outK (F63.P1 (F63.L1 call lf ro n)) (fun i e h => F63.C1 call lf ro (.exit i e h)) (fun e h => F63.C1 call lf ro (.ret e h))) = F63.L1 call lf ro (n + 1) a1 l1 c1 n2 n3 h4 := by kernel_rfl

theorem F63.CK1 (call : CT) (lf ro : Nat) : KLe 167 (F63.C1 call lf ro) (F63.K1 call lf ro) :=
  (KLe.block (KLe.seq (H := (F63.Ht call lf ro)) (J := (F63.Ut call lf ro)) (KLe.refl _) (fun e h hs => F63.BJ12 call lf ro  e h hs)))

theorem F63.B1 (call : CT) (lf ro : Nat) : ∀ n e h, Shaped 167 e → LeO (F63.P1 (F63.L1 call lf ro n) e h) (loopK (execK Tryd.prog call lf ro (sub (codeOf Tryd.f63) [true, false, false, false])) n e h (F63.K1 call lf ro)) := by
  refine loop_le (fun e h k k' hs hk => execK_mono _ e h k k' hs hk) (kb := fun n => F63.P1 (F63.L1 call lf ro n)) (kx := fun i e h => F63.C1 call lf ro (.exit i e h)) (kr := fun e h => F63.C1 call lf ro (.ret e h)) ?_ ?_ (fun i e h hs => (F63.CK1 call lf ro).exit i e h hs) (fun e h hs => (F63.CK1 call lf ro).ret e h hs)
  · rintro e h ⟨f, rfl⟩
    unfold F63.P1
    refine getK_le fun w0 g0 => ?_
    rw [EF_get (by decide)] at g0
    refine sliceK_le fun a226 l226 c226 z247 => ?_
    subst z247
    refine getK_le fun w1 g1 => ?_
    rw [EF_get (by decide)] at g1
    refine intK_le fun n227 z248 => ?_
    subst z248
    refine getK_le fun w4 g4 => ?_
    rw [EF_get (by decide)] at g4
    refine intK_le fun n228 z249 => ?_
    subst z249
    exact LeO.refl _
  · rintro n e h ⟨f, rfl⟩
    unfold F63.P1
    refine getK_le fun w0 g0 => ?_
    rw [EF_get (by decide)] at g0
    refine sliceK_le fun a226 l226 c226 z250 => ?_
    subst z250
    refine getK_le fun w1 g1 => ?_
    rw [EF_get (by decide)] at g1
    refine intK_le fun n227 z251 => ?_
    subst z251
    refine getK_le fun w4 g4 => ?_
    rw [EF_get (by decide)] at g4
    refine intK_le fun n228 z252 => ?_
    subst z252
    have hr := F63.R1 call lf ro n f a226 l226 c226 n227 n228 h
    rw [updF_same g0, updF_same g1, updF_same g4] at hr
    exact round_le (H := (F63.H1 call lf ro (F63.L1 call lf ro n))) (J := (F63.U1 call lf ro (F63.L1 call lf ro n))) (hd_free rfl) hr

theorem F63.le (call : CT) (lf ro : Nat) (ax0 : Option Addr) (lx0 : Nat) (cx0 : Nat) (x1 : Int) (h : Heap) : LeO (F63.t call lf ro ax0 lx0 cx0 x1 h) (bodyK Tryd.prog call lf ro Tryd.f63 [.slice ax0 lx0 cx0, .int .u64 x1] h) :=
  body_le (c := codeOf Tryd.f63) (H := F63.Ht call lf ro) (J := F63.Ut call lf ro) rfl (Nat.le_of_ble_eq_true rfl) ⟨(hd_free rfl), ⟨(fun e h hs => F63.B1 call lf ro  lf e h hs), (fun e h hs => F63.BJ12 call lf ro  e h hs)⟩⟩ (by kernel_rfl)

/-! ### internal/strconv.log10Pow2: function 70 -/

noncomputable def F70.t (call : CT) (lf ro : Nat) (x0 : Int) (h : Heap) : Out :=
  Out.ok (.int .i64 (Int.fdiv (IntKind.i64.wrap (x0 * 78913)) 262144)) h

noncomputable def F70.Ht (call : CT) (lf ro : Nat) (i : Nat) (e : Env) (h : Heap) : Out := .fail
noncomputable def F70.Ut (call : CT) (lf ro : Nat) (i : Nat) : Option (Env → Heap → Out) := none

theorem F70.le (call : CT) (lf ro : Nat) (x0 : Int) (h : Heap) : LeO (F70.t call lf ro x0 h) (bodyK Tryd.prog call lf ro Tryd.f70 [.int .i64 x0] h) :=
  body_le (c := codeOf Tryd.f70) (H := F70.Ht call lf ro) (J := F70.Ut call lf ro) rfl (Nat.le_of_ble_eq_true rfl) (hd_free rfl) (by kernel_rfl)

/-! ### math/bits.Len64: function 71 -/

noncomputable def F71.J7 (call : CT) (lf ro : Nat) (n4 : Int) (n5 : Int) (h6 : Heap) : Out :=
  letJ (fun (n7 : Int) (n8 : Int) =>
  (bindO (indexO Tryd.prog 9 (.string (⟨#[0, 1, 2, 2, 3, 3, 3, 3, 4, 4, 4, 4, 4, 4, 4, 4, 5, 5, 5, 5, 5, 5, 5, 5, 5, 5, 5, 5, 5, 5, 5, 5, 6, 6, 6, 6, 6, 6, 6, 6, 6, 6, 6, 6, 6, 6, 6, 6, 6, 6, 6, 6, 6, 6, 6, 6, 6, 6, 6, 6, 6, 6, 6, 6, 7, 7, 7, 7, 7, 7, 7, 7, 7, 7, 7, 7, 7, 7, 7, 7, 7, 7, 7, 7, 7, 7, 7, 7, 7, 7, 7, 7, 7, 7, 7, 7, 7, 7, 7, 7, 7, 7, 7, 7, 7, 7, 7, 7, 7, 7, 7, 7, 7, 7, 7, 7, 7, 7, 7, 7, 7, 7, 7, 7, 7, 7, 7, 7, 8, 8, 8, 8, 8, 8, 8, 8, 8, 8, 8, 8, 8, 8, 8, 8, 8, 8, 8, 8, 8, 8, 8, 8, 8, 8, 8, 8, 8, 8, 8, 8, 8, 8, 8, 8, 8, 8, 8, 8, 8, 8, 8, 8, 8, 8, 8, 8, 8, 8, 8, 8, 8, 8, 8, 8, 8, 8, 8, 8, 8, 8, 8, 8, 8, 8, 8, 8, 8, 8, 8, 8, 8, 8, 8, 8, 8, 8, 8, 8, 8, 8, 8, 8, 8, 8, 8, 8, 8, 8, 8, 8, 8, 8, 8, 8, 8, 8, 8, 8, 8, 8, 8, 8, 8, 8, 8, 8, 8, 8, 8, 8, 8, 8, 8, 8, 8, 8, 8, 8, 8, 8, 8, 8, 8, 8, 8, 8]⟩ : ByteArray)) (.int .u8 (IntKind.u8.wrap n7)) h6) fun v13 h14 =>
  intK .u8 v13 fun n15 =>
  Out.ok (.int .i64 (IntKind.i64.wrap (n8 + (IntKind.i64.wrap n15)))) h14)) fun j9 =>
  ifK (decide (n4 ≥ 256)) (j9 (Int.fdiv n4 256) (IntKind.i64.wrap (n5 + 8))) (j9 n4 n5)

noncomputable def F71.PJ7 (kb : Int → Int → Heap → Out) (e : Env) (h : Heap) : Out :=
  getK (e.get 0) fun w0 =>
  intK .u64 w0 fun n16 =>
  getK (e.get 2) fun w2 =>
  intK .i64 w2 fun n17 =>
  kb n16 n17 h

noncomputable def F71.J4 (call : CT) (lf ro : Nat) (n1 : Int) (n2 : Int) (h3 : Heap) : Out :=
  ifK (decide (n1 ≥ 65536)) (F71.J7 call lf ro (Int.fdiv n1 65536) (IntKind.i64.wrap (n2 + 16)) h3) (F71.J7 call lf ro n1 n2 h3)

noncomputable def F71.PJ4 (kb : Int → Int → Heap → Out) (e : Env) (h : Heap) : Out :=
  getK (e.get 0) fun w0 =>
  intK .u64 w0 fun n18 =>
  getK (e.get 2) fun w2 =>
  intK .i64 w2 fun n19 =>
  kb n18 n19 h

noncomputable def F71.t (call : CT) (lf ro : Nat) (x0 : Int) (h : Heap) : Out :=
  ifK (decide (x0 ≥ 4294967296)) (F71.J4 call lf ro (Int.fdiv x0 4294967296) 32 h) (F71.J4 call lf ro x0 0 h)

noncomputable def F71.Ht (call : CT) (lf ro : Nat) (i : Nat) (e : Env) (h : Heap) : Out := .fail
noncomputable def F71.Ut (call : CT) (lf ro : Nat) (i : Nat) : Option (Env → Heap → Out) := ifJ (i == 7) (some (F71.PJ7 (F71.J7 call lf ro))) (ifJ (i == 4) (some (F71.PJ4 (F71.J4 call lf ro))) (none))

noncomputable def F71.CJ7 (call : CT) (lf ro : Nat) : COut → Out := endK Tryd.prog Tryd.f71

noncomputable def F71.KJ7 (call : CT) (lf ro : Nat) : COut → Out := endK Tryd.prog Tryd.f71

noncomputable def F71.CJ4 (call : CT) (lf ro : Nat) : COut → Out := endK Tryd.prog Tryd.f71

noncomputable def F71.KJ4 (call : CT) (lf ro : Nat) : COut → Out := endK Tryd.prog Tryd.f71

theorem F71.RJ7 (call : CT) (lf ro : Nat) (f : Nat → Option Value) (n4 : Int) (n5 : Int) (h6 : Heap) :
    execH Tryd.prog call ro (F71.Ht call lf ro) (F71.Ut call lf ro) (sub (codeOf Tryd.f71) [true, true, true]) (EF 25 (updF (updF f 0 (some (.int .u64 n4))) 2 (some (.int .i64 n5)))) h6 (F71.CJ7 call lf ro) = F71.J7 call lf ro n4 n5 h6 := by kernel_rfl

theorem F71.CKJ7 (call : CT) (lf ro : Nat) : KLe 25 (F71.CJ7 call lf ro) (F71.KJ7 call lf ro) :=
  (KLe.refl _)

theorem F71.BJ7 (call : CT) (lf ro : Nat) : ∀ e h, Shaped 25 e → LeO (F71.PJ7 (F71.J7 call lf ro) e h) (execK Tryd.prog call lf ro (sub (codeOf Tryd.f71) [true, true, true]) e h (F71.KJ7 call lf ro)) := by
    rintro e h ⟨f, rfl⟩
    unfold F71.PJ7
    refine getK_le fun w0 g0 => ?_
    rw [EF_get (by decide)] at g0
    refine intK_le fun n16 z20 => ?_
    subst z20
    refine getK_le fun w2 g2 => ?_
    rw [EF_get (by decide)] at g2
    refine intK_le fun n17 z21 => ?_
    subst z21
    have hr := F71.RJ7 call lf ro f n16 n17 h
    rw [updF_same g0, updF_same g2] at hr
    exact cut_le (H := (F71.Ht call lf ro)) (J := (F71.Ut call lf ro)) (F71.CKJ7 call lf ro) (hd_free rfl) hr

theorem F71.RJ4 (call : CT) (lf ro : Nat) (f : Nat → Option Value) (n1 : Int) (n2 : Int) (h3 : Heap) :
    execH Tryd.prog call ro (F71.Ht call lf ro) (F71.Ut call lf ro) (sub (codeOf Tryd.f71) [true, true]) (EF 25 (updF (updF f 0 (some (.int .u64 n1))) 2 (some (.int .i64 n2)))) h3 (F71.CJ4 call lf ro) = F71.J4 call lf ro n1 n2 h3 := by kernel_rfl

theorem F71.CKJ4 (call : CT) (lf ro : Nat) : KLe 25 (F71.CJ4 call lf ro) (F71.KJ4 call lf ro) :=
  (KLe.refl _)

theorem F71.BJ4 (call : CT) (lf ro : Nat) : ∀ e h, Shaped 25 e → LeO (F71.PJ4 (F71.J4 call lf ro) e h) (execK Tryd.prog call lf ro (sub (codeOf Tryd.f71) [true, true]) e h (F71.KJ4 call lf ro)) := by
    rintro e h ⟨f, rfl⟩
    unfold F71.PJ4
    refine getK_le fun w0 g0 => ?_
    rw [EF_get (by decide)] at g0
    refine intK_le fun n18 z24 => ?_
    subst z24
    refine getK_le fun w2 g2 => ?_
    rw [EF_get (by decide)] at g2
    refine intK_le fun n19 z25 => ?_
    subst z25
    have hr := F71.RJ4 call lf ro f n18 n19 h
    rw [updF_same g0, updF_same g2] at hr
    exact cut_le (H := (F71.Ht call lf ro)) (J := (F71.Ut call lf ro)) (F71.CKJ4 call lf ro) ⟨(hd_free rfl), (fun e h hs => F71.BJ7 call lf ro  e h hs)⟩ hr

theorem F71.le (call : CT) (lf ro : Nat) (x0 : Int) (h : Heap) : LeO (F71.t call lf ro x0 h) (bodyK Tryd.prog call lf ro Tryd.f71 [.int .u64 x0] h) :=
  body_le (c := codeOf Tryd.f71) (H := F71.Ht call lf ro) (J := F71.Ut call lf ro) rfl (Nat.le_of_ble_eq_true rfl) ⟨(hd_free rfl), ⟨(hd_free rfl), (fun e h hs => F71.BJ4 call lf ro  e h hs)⟩⟩ (by kernel_rfl)

/-! ### internal/strconv.bool2[int]: function 72 -/

noncomputable def F72.t (call : CT) (lf ro : Nat) (x0 : Bool) (h : Heap) : Out :=
  ifK x0 (Out.ok (.int .i64 1) h) (Out.ok (.int .i64 0) h)

noncomputable def F72.Ht (call : CT) (lf ro : Nat) (i : Nat) (e : Env) (h : Heap) : Out := .fail
noncomputable def F72.Ut (call : CT) (lf ro : Nat) (i : Nat) : Option (Env → Heap → Out) := none

theorem F72.le (call : CT) (lf ro : Nat) (x0 : Bool) (h : Heap) : LeO (F72.t call lf ro x0 h) (bodyK Tryd.prog call lf ro Tryd.f72 [.bool x0] h) :=
  body_le (c := codeOf Tryd.f72) (H := F72.Ht call lf ro) (J := F72.Ut call lf ro) rfl (Nat.le_of_ble_eq_true rfl) (hd_free rfl) (by kernel_rfl)

end Go.Proofs.YtgpnjdldpehidaaDoor
