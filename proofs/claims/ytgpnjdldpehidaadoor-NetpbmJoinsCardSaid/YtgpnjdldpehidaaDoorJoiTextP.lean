/-
  The functions that read and the law, as the interpreter runs them, written out; no statement of the seat is proved in this file.
-/
import Derived.Test.YtgpnjdldpehidaaDoorProg
import Derived.KernelRfl
import Derived.Test.YtgpnjdldpehidaaDoorAbsG
open Go Go.Abs Go.Proofs
set_option maxRecDepth 100000
set_option linter.unusedVariables false
namespace Go.Proofs.YtgpnjdldpehidaaDoor

/-! ### barscan/netpbm.space: function 36 -/

noncomputable def F36.t (call : CT) (lf ro : Nat) (x0 : Int) (h : Heap) : Out :=
  letJ (fun (b1 : Bool) =>
  (Out.ok (.bool b1) h)) fun j2 =>
  ifK (x0 == 32) (j2 true) (ifK (x0 == 9) (j2 true) (ifK (x0 == 10) (j2 true) (j2 (x0 == 13))))

noncomputable def F36.Ht (call : CT) (lf ro : Nat) (i : Nat) (e : Env) (h : Heap) : Out := .fail
noncomputable def F36.Ut (call : CT) (lf ro : Nat) (i : Nat) : Option (Env → Heap → Out) := none

theorem F36.le (call : CT) (lf ro : Nat) (x0 : Int) (h : Heap) : LeO (F36.t call lf ro x0 h) (bodyK Tryd.prog call lf ro Tryd.f36 [.int .u8 x0] h) :=
  body_le (c := codeOf Tryd.f36) (H := F36.Ht call lf ro) (J := F36.Ut call lf ro) rfl (Nat.le_of_ble_eq_true rfl) (hd_free rfl) (by kernel_rfl)

/-! ### barscan/netpbm.digit: function 51 -/

noncomputable def F51.t (call : CT) (lf ro : Nat) (x0 : Int) (h : Heap) : Out :=
  letJ (fun (b1 : Bool) =>
  (Out.ok (.bool b1) h)) fun j2 =>
  ifK (decide (x0 ≥ 48)) (j2 (decide (x0 ≤ 57))) (j2 false)

noncomputable def F51.Ht (call : CT) (lf ro : Nat) (i : Nat) (e : Env) (h : Heap) : Out := .fail
noncomputable def F51.Ut (call : CT) (lf ro : Nat) (i : Nat) : Option (Env → Heap → Out) := none

theorem F51.le (call : CT) (lf ro : Nat) (x0 : Int) (h : Heap) : LeO (F51.t call lf ro x0 h) (bodyK Tryd.prog call lf ro Tryd.f51 [.int .u8 x0] h) :=
  body_le (c := codeOf Tryd.f51) (H := F51.Ht call lf ro) (J := F51.Ut call lf ro) rfl (Nat.le_of_ble_eq_true rfl) (hd_free rfl) (by kernel_rfl)

/-! ### (*barscan/netpbm.parser).must: function 52 -/

noncomputable def F52.t (call : CT) (lf ro : Nat) (px0 : Nat) (ox0 : Nat) (x1 : Bool) (x2 : Int) (h : Heap) : Out :=
  ifK (!x1) (Out.panic (.iface 77 (.agg #[.int .i64 x2])) h) (Out.ok (.tuple #[]) h)

noncomputable def F52.Ht (call : CT) (lf ro : Nat) (i : Nat) (e : Env) (h : Heap) : Out := .fail
noncomputable def F52.Ut (call : CT) (lf ro : Nat) (i : Nat) : Option (Env → Heap → Out) := none

theorem F52.le (call : CT) (lf ro : Nat) (px0 : Nat) (ox0 : Nat) (x1 : Bool) (x2 : Int) (h : Heap) : LeO (F52.t call lf ro px0 ox0 x1 x2 h) (bodyK Tryd.prog call lf ro Tryd.f52 [.pointer (some ⟨px0, ox0, none⟩), .bool x1, .int .i64 x2] h) :=
  body_le (c := codeOf Tryd.f52) (H := F52.Ht call lf ro) (J := F52.Ut call lf ro) rfl (Nat.le_of_ble_eq_true rfl) (hd_free rfl) (by kernel_rfl)

/-! ### (*barscan/netpbm.parser).header: function 53 -/

noncomputable def F53.t (call : CT) (lf ro : Nat) (px0 : Nat) (ox0 : Nat) (x1 : Int) (x2 : Int) (h : Heap) : Out :=
  bindO (call ro 65 [.pointer (some ⟨px0, ox0, none⟩)] h) fun v4 h5 =>
  intK .i64 v4 fun n6 =>
  bindN (loadO Tryd.prog 3 (.pointer (some ⟨px0, ox0 + 1, none⟩)) h5) fun v16 h17 =>
  intK .i64 v16 fun n18 =>
  bindN (loadO Tryd.prog 22 (.pointer (some ⟨px0, ox0 + 0, none⟩)) h17) fun v19 h20 =>
  sliceK v19 fun a21 l21 c21 =>
  bindO (call ro 52 [.pointer (some ⟨px0, ox0, none⟩), .bool (decide (n18 < (l21 : Int))), .int .i64 10] h20) fun v22 h23 =>
  tupK v22 fun q24 =>
  nilK q24 <|
  letJ (fun (h31 : Heap) =>
  (Out.ok (.int .i64 n6) h31)) fun j32 =>
  ifK (decide (n6 ≥ x1)) (bindO (call ro 52 [.pointer (some ⟨px0, ox0, none⟩), .bool (decide (n6 ≤ x2)), .int .i64 3] h23) fun v33 h34 =>
  tupK v33 fun q35 =>
  nilK q35 <|
  j32 h34) (bindO (call ro 52 [.pointer (some ⟨px0, ox0, none⟩), .bool false, .int .i64 3] h23) fun v36 h37 =>
  tupK v36 fun q38 =>
  nilK q38 <|
  j32 h37)

noncomputable def F53.Ht (call : CT) (lf ro : Nat) (i : Nat) (e : Env) (h : Heap) : Out := .fail
noncomputable def F53.Ut (call : CT) (lf ro : Nat) (i : Nat) : Option (Env → Heap → Out) := none

theorem F53.le (call : CT) (lf ro : Nat) (px0 : Nat) (ox0 : Nat) (x1 : Int) (x2 : Int) (h : Heap) : LeO (F53.t call lf ro px0 ox0 x1 x2 h) (bodyK Tryd.prog call lf ro Tryd.f53 [.pointer (some ⟨px0, ox0, none⟩), .int .i64 x1, .int .i64 x2] h) :=
  body_le (c := codeOf Tryd.f53) (H := F53.Ht call lf ro) (J := F53.Ut call lf ro) rfl (Nat.le_of_ble_eq_true rfl) (hd_free rfl) (by kernel_rfl)

/-! ### barscan/netpbm.plain: function 54 -/

noncomputable def F54.t (call : CT) (lf ro : Nat) (x0 : Int) (h : Heap) : Out :=
  letJ (fun (b1 : Bool) =>
  (Out.ok (.bool b1) h)) fun j2 =>
  ifK (x0 == 1) (j2 true) (j2 (x0 == 2))

noncomputable def F54.Ht (call : CT) (lf ro : Nat) (i : Nat) (e : Env) (h : Heap) : Out := .fail
noncomputable def F54.Ut (call : CT) (lf ro : Nat) (i : Nat) : Option (Env → Heap → Out) := none

theorem F54.le (call : CT) (lf ro : Nat) (x0 : Int) (h : Heap) : LeO (F54.t call lf ro x0 h) (bodyK Tryd.prog call lf ro Tryd.f54 [.int .i64 x0] h) :=
  body_le (c := codeOf Tryd.f54) (H := F54.Ht call lf ro) (J := F54.Ut call lf ro) rfl (Nat.le_of_ble_eq_true rfl) (hd_free rfl) (by kernel_rfl)

/-! ### (*barscan/netpbm.parser).text: function 55 -/

noncomputable def F55.J7 (call : CT) (lf ro : Nat) (kb1 : Nat → Nat → Nat → Nat → Int → Int → Int → Int → Heap → Out) (p53 : Nat) (o53 : Nat) (p54 : Nat) (o54 : Nat) (n55 : Int) (n56 : Int) (n57 : Int) (n58 : Int) (n59 : Int) (h60 : Heap) : Out :=
  letJ (fun (h231 : Heap) =>
  (kb1 p53 o53 p54 o54 n55 n56 n58 (IntKind.i64.wrap (n59 + 1)) h231)) fun j232 =>
  bindO (call ro 67 [.pointer (some ⟨p53, o53, none⟩)] h60) fun v321 h322 =>
  tupK v321 fun q323 =>
  nilK q323 <|
  bindN (loadO Tryd.prog 3 (.pointer (some ⟨p53, o53 + 1, none⟩)) h322) fun v333 h334 =>
  intK .i64 v333 fun n335 =>
  bindN (loadO Tryd.prog 22 (.pointer (some ⟨p53, o53 + 0, none⟩)) h334) fun v336 h337 =>
  sliceK v336 fun a338 l338 c338 =>
  bindO (call ro 52 [.pointer (some ⟨p53, o53, none⟩), .bool (decide (n335 < (l338 : Int))), .int .i64 10] h337) fun v339 h340 =>
  tupK v339 fun q341 =>
  nilK q341 <|
  bindN (loadO Tryd.prog 22 (.pointer (some ⟨p53, o53 + 0, none⟩)) h340) fun v353 h354 =>
  sliceK v353 fun a355 l355 c355 =>
  bindN (loadO Tryd.prog 3 (.pointer (some ⟨p53, o53 + 1, none⟩)) h354) fun v356 h357 =>
  intK .i64 v356 fun n358 =>
  bindO (idxO Tryd.prog 22 (.slice a355 l355 c355) (.int .i64 n358) h357) fun v359 h360 =>
  bindO (loadO Tryd.prog 5 v359 h360) fun v361 h362 =>
  intK .u8 v361 fun n363 =>
  letJ (fun (h370 : Heap) =>
  (bindN (loadO Tryd.prog 22 (.pointer (some ⟨p54, o54 + 2, none⟩)) h370) fun v382 h383 =>
  sliceK v382 fun a384 l384 c384 =>
  bindN (call h383.next 68 [.bool (n363 == 49)] h383) fun v385 h386 =>
  intK .u8 v385 fun n387 =>
  bindO (idxO Tryd.prog 22 (.slice a384 l384 c384) (.int .i64 n57) h386) fun v388 h389 =>
  bindO (storeO Tryd.prog ro 5 v388 (.int .u8 n387) h389) fun v390 h391 =>
  bindO (loadO Tryd.prog 3 (.pointer (some ⟨p53, o53 + 1, none⟩)) h391) fun v392 h393 =>
  intK .i64 v392 fun n394 =>
  bindO (storeO Tryd.prog ro 3 (.pointer (some ⟨p53, o53 + 1, none⟩)) (.int .i64 (IntKind.i64.wrap (n394 + 1))) h393) fun v395 h396 =>
  j232 h396)) fun j371 =>
  ifK (n363 == 48) (bindO (call ro 52 [.pointer (some ⟨p53, o53, none⟩), .bool true, .int .i64 9] h362) fun v397 h398 =>
  tupK v397 fun q399 =>
  nilK q399 <|
  j371 h398) (bindO (call ro 52 [.pointer (some ⟨p53, o53, none⟩), .bool (n363 == 49), .int .i64 9] h362) fun v400 h401 =>
  tupK v400 fun q402 =>
  nilK q402 <|
  j371 h401)

noncomputable def F55.PJ7 (kb : Nat → Nat → Nat → Nat → Int → Int → Int → Int → Int → Heap → Out) (e : Env) (h : Heap) : Out :=
  getK (e.get 0) fun w0 =>
  ptrK w0 fun p403 o403 =>
  getK (e.get 1) fun w1 =>
  ptrK w1 fun p404 o404 =>
  getK (e.get 2) fun w2 =>
  intK .i64 w2 fun n405 =>
  getK (e.get 3) fun w3 =>
  intK .i64 w3 fun n406 =>
  getK (e.get 8) fun w8 =>
  intK .i64 w8 fun n407 =>
  getK (e.get 15) fun w15 =>
  intK .i64 w15 fun n408 =>
  getK (e.get 16) fun w16 =>
  intK .i64 w16 fun n409 =>
  kb p403 o403 p404 o404 n405 n406 n407 n408 n409 h

noncomputable def F55.J2 (call : CT) (lf ro : Nat) (kb1 : Nat → Nat → Nat → Nat → Int → Int → Int → Int → Heap → Out) (p14 : Nat) (o14 : Nat) (p15 : Nat) (o15 : Nat) (n16 : Int) (n17 : Int) (n18 : Int) (n19 : Int) (h20 : Heap) : Out :=
  ifK (n16 == 2) (bindO (call ro 65 [.pointer (some ⟨p14, o14, none⟩)] h20) fun v413 h414 =>
  intK .i64 v413 fun n415 =>
  bindO (call ro 52 [.pointer (some ⟨p14, o14, none⟩), .bool (decide (n415 ≤ n17)), .int .i64 3] h414) fun v419 h420 =>
  tupK v419 fun q421 =>
  nilK q421 <|
  bindN (loadO Tryd.prog 22 (.pointer (some ⟨p15, o15 + 2, none⟩)) h420) fun v432 h433 =>
  sliceK v432 fun a434 l434 c434 =>
  bindN (call h433.next 66 [.int .i64 n415, .int .i64 n17] h433) fun v435 h436 =>
  intK .u8 v435 fun n437 =>
  bindO (idxO Tryd.prog 22 (.slice a434 l434 c434) (.int .i64 n19) h436) fun v438 h439 =>
  bindO (storeO Tryd.prog ro 5 v438 (.int .u8 n437) h439) fun v440 h441 =>
  kb1 p14 o14 p15 o15 n16 n17 n18 (IntKind.i64.wrap (n19 + 1)) h441) (F55.J7 call lf ro kb1 p14 o14 p15 o15 n16 n17 n19 n18 n19 h20)

noncomputable def F55.PJ2 (kb : Nat → Nat → Nat → Nat → Int → Int → Int → Int → Heap → Out) (e : Env) (h : Heap) : Out :=
  getK (e.get 0) fun w0 =>
  ptrK w0 fun p442 o442 =>
  getK (e.get 1) fun w1 =>
  ptrK w1 fun p443 o443 =>
  getK (e.get 2) fun w2 =>
  intK .i64 w2 fun n444 =>
  getK (e.get 3) fun w3 =>
  intK .i64 w3 fun n445 =>
  getK (e.get 15) fun w15 =>
  intK .i64 w15 fun n446 =>
  getK (e.get 16) fun w16 =>
  intK .i64 w16 fun n447 =>
  kb p442 o442 p443 o443 n444 n445 n446 n447 h

noncomputable def F55.J15 (call : CT) (lf ro : Nat) (p457 : Nat) (o457 : Nat) (b458 : Bool) (h459 : Heap) : Out :=
  ifK b458 (bindN (loadO Tryd.prog 22 (.pointer (some ⟨p457, o457 + 0, none⟩)) h459) fun v460 h461 =>
  sliceK v460 fun a462 l462 c462 =>
  bindN (loadO Tryd.prog 3 (.pointer (some ⟨p457, o457 + 1, none⟩)) h461) fun v463 h464 =>
  intK .i64 v463 fun n465 =>
  bindN (idxO Tryd.prog 22 (.slice a462 l462 c462) (.int .i64 n465) h464) fun v466 h467 =>
  bindN (loadO Tryd.prog 5 v466 h467) fun v468 h469 =>
  intK .u8 v468 fun n470 =>
  bindN (call ro 36 [.int .u8 n470] h469) fun v471 h472 =>
  boolK v471 fun b473 =>
  ifK b473 (bindO (call ro 52 [.pointer (some ⟨p457, o457, none⟩), .bool true, .int .i64 9] h472) fun v474 h475 =>
  tupK v474 fun q476 =>
  nilK q476 <|
  Out.ok (.tuple #[]) h475) (bindN (loadO Tryd.prog 22 (.pointer (some ⟨p457, o457 + 0, none⟩)) h472) fun v477 h478 =>
  sliceK v477 fun a479 l479 c479 =>
  bindN (loadO Tryd.prog 3 (.pointer (some ⟨p457, o457 + 1, none⟩)) h478) fun v480 h481 =>
  intK .i64 v480 fun n482 =>
  bindN (idxO Tryd.prog 22 (.slice a479 l479 c479) (.int .i64 n482) h481) fun v483 h484 =>
  bindN (loadO Tryd.prog 5 v483 h484) fun v485 h486 =>
  intK .u8 v485 fun n487 =>
  bindO (call ro 52 [.pointer (some ⟨p457, o457, none⟩), .bool (n487 == 35), .int .i64 9] h486) fun v488 h489 =>
  tupK v488 fun q490 =>
  nilK q490 <|
  Out.ok (.tuple #[]) h489)) (Out.ok (.tuple #[]) h459)

noncomputable def F55.PJ15 (kb : Nat → Nat → Bool → Heap → Out) (e : Env) (h : Heap) : Out :=
  getK (e.get 0) fun w0 =>
  ptrK w0 fun p491 o491 =>
  getK (e.get 99) fun w99 =>
  boolK w99 fun b492 =>
  kb p491 o491 b492 h

noncomputable def F55.J14 (call : CT) (lf ro : Nat) (p448 : Nat) (o448 : Nat) (n449 : Int) (h450 : Heap) : Out :=
  ifK (n449 == 2) (bindN (loadO Tryd.prog 3 (.pointer (some ⟨p448, o448 + 1, none⟩)) h450) fun v451 h452 =>
  intK .i64 v451 fun n453 =>
  bindN (loadO Tryd.prog 22 (.pointer (some ⟨p448, o448 + 0, none⟩)) h452) fun v454 h455 =>
  sliceK v454 fun a456 l456 c456 =>
  F55.J15 call lf ro p448 o448 (decide (n453 < (l456 : Int))) h455) (F55.J15 call lf ro p448 o448 false h450)

noncomputable def F55.PJ14 (kb : Nat → Nat → Int → Heap → Out) (e : Env) (h : Heap) : Out :=
  getK (e.get 0) fun w0 =>
  ptrK w0 fun p493 o493 =>
  getK (e.get 2) fun w2 =>
  intK .i64 w2 fun n494 =>
  kb p493 o493 n494 h

noncomputable def F55.L1 (call : CT) (lf ro : Nat) : Nat → Nat → Nat → Nat → Nat → Int → Int → Int → Int → Heap → Out
  | 0, _, _, _, _, _, _, _, _, _ => .fail
  | n + 1, p7, o7, p8, o8, n9, n10, n11, n12, h13 =>
  ifK (decide (n12 < n11)) (F55.J2 call lf ro (F55.L1 call lf ro n) p7 o7 p8 o8 n9 n10 n11 n12 h13) (F55.J14 call lf ro p7 o7 n9 h13)

noncomputable def F55.P1 (kb : Nat → Nat → Nat → Nat → Int → Int → Int → Int → Heap → Out) (e : Env) (h : Heap) : Out :=
  getK (e.get 0) fun w0 =>
  ptrK w0 fun p495 o495 =>
  getK (e.get 1) fun w1 =>
  ptrK w1 fun p496 o496 =>
  getK (e.get 2) fun w2 =>
  intK .i64 w2 fun n497 =>
  getK (e.get 3) fun w3 =>
  intK .i64 w3 fun n498 =>
  getK (e.get 15) fun w15 =>
  intK .i64 w15 fun n499 =>
  getK (e.get 16) fun w16 =>
  intK .i64 w16 fun n500 =>
  kb p495 o495 p496 o496 n497 n498 n499 n500 h

noncomputable def F55.t (call : CT) (lf ro : Nat) (px0 : Nat) (ox0 : Nat) (px1 : Nat) (ox1 : Nat) (x2 : Int) (x3 : Int) (h : Heap) : Out :=
  bindO (loadO Tryd.prog 22 (.pointer (some ⟨px1, ox1 + 2, none⟩)) h) fun v4 h5 =>
  sliceK v4 fun a6 l6 c6 =>
  F55.L1 call lf ro lf px0 ox0 px1 ox1 x2 x3 (l6 : Int) 0 h5

noncomputable def F55.Ht (call : CT) (lf ro : Nat) (i : Nat) (e : Env) (h : Heap) : Out := ifK (i == 1) (F55.P1 (F55.L1 call lf ro lf) e h) (.fail)
noncomputable def F55.Ut (call : CT) (lf ro : Nat) (i : Nat) : Option (Env → Heap → Out) := ifJ (i == 15) (some (F55.PJ15 (F55.J15 call lf ro))) (ifJ (i == 14) (some (F55.PJ14 (F55.J14 call lf ro))) (none))

noncomputable def F55.H1 (call : CT) (lf ro : Nat) (kb1 : Nat → Nat → Nat → Nat → Int → Int → Int → Int → Heap → Out) (i : Nat) (e : Env) (h : Heap) : Out := ifK (i == 1) (F55.P1 (F55.L1 call lf ro lf) e h) (.fail)
noncomputable def F55.U1 (call : CT) (lf ro : Nat) (kb1 : Nat → Nat → Nat → Nat → Int → Int → Int → Int → Heap → Out) (i : Nat) : Option (Env → Heap → Out) := ifJ (i == 15) (some (F55.PJ15 (F55.J15 call lf ro))) (ifJ (i == 14) (some (F55.PJ14 (F55.J14 call lf ro))) (ifJ (i == 7) (some (F55.PJ7 (F55.J7 call lf ro kb1))) (ifJ (i == 2) (some (F55.PJ2 (F55.J2 call lf ro kb1))) (none))))

noncomputable def F55.C1 (call : CT) (lf ro : Nat) : COut → Out := blockK 0 (seqH Tryd.prog call ro (F55.Ht call lf ro) (F55.Ut call lf ro) (sub (codeOf Tryd.f55) [true]) (endK Tryd.prog Tryd.f55))

noncomputable def F55.K1 (call : CT) (lf ro : Nat) : COut → Out := blockK 0 (seqK Tryd.prog call lf ro (sub (codeOf Tryd.f55) [true]) (endK Tryd.prog Tryd.f55))

noncomputable def F55.CJ15 (call : CT) (lf ro : Nat) : COut → Out := endK Tryd.prog Tryd.f55

noncomputable def F55.KJ15 (call : CT) (lf ro : Nat) : COut → Out := endK Tryd.prog Tryd.f55

noncomputable def F55.CJ14 (call : CT) (lf ro : Nat) : COut → Out := endK Tryd.prog Tryd.f55

noncomputable def F55.KJ14 (call : CT) (lf ro : Nat) : COut → Out := endK Tryd.prog Tryd.f55

noncomputable def F55.CJ7 (call : CT) (lf ro : Nat) (kb1 : Nat → Nat → Nat → Nat → Int → Int → Int → Int → Heap → Out) : COut → Out := blockK 1 (seqH Tryd.prog call ro (F55.H1 call lf ro kb1) (F55.U1 call lf ro kb1) (sub (codeOf Tryd.f55) [false, true, false, false, true, true, true]) (outK (F55.P1 kb1) (fun i e h => F55.C1 call lf ro (.exit i e h)) (fun e h => F55.C1 call lf ro (.ret e h))))

noncomputable def F55.KJ7 (call : CT) (lf ro : Nat) (kb1 : Nat → Nat → Nat → Nat → Int → Int → Int → Int → Heap → Out) : COut → Out := blockK 1 (seqK Tryd.prog call lf ro (sub (codeOf Tryd.f55) [false, true, false, false, true, true, true]) (outK (F55.P1 kb1) (fun i e h => F55.C1 call lf ro (.exit i e h)) (fun e h => F55.C1 call lf ro (.ret e h))))

noncomputable def F55.CJ2 (call : CT) (lf ro : Nat) (kb1 : Nat → Nat → Nat → Nat → Int → Int → Int → Int → Heap → Out) : COut → Out := outK (F55.P1 kb1) (fun i e h => F55.C1 call lf ro (.exit i e h)) (fun e h => F55.C1 call lf ro (.ret e h))

noncomputable def F55.KJ2 (call : CT) (lf ro : Nat) (kb1 : Nat → Nat → Nat → Nat → Int → Int → Int → Int → Heap → Out) : COut → Out := outK (F55.P1 kb1) (fun i e h => F55.C1 call lf ro (.exit i e h)) (fun e h => F55.C1 call lf ro (.ret e h))

theorem F55.RJ7 (call : CT) (lf ro : Nat) (kb1 : Nat → Nat → Nat → Nat → Int → Int → Int → Int → Heap → Out) (f : Nat → Option Value) (p53 : Nat) (o53 : Nat) (p54 : Nat) (o54 : Nat) (n55 : Int) (n56 : Int) (n57 : Int) (n58 : Int) (n59 : Int) (h60 : Heap) :
    execH Tryd.prog call ro (F55.H1 call lf ro kb1) (F55.U1 call lf ro kb1) (sub (codeOf Tryd.f55) [false, true, false, false, true, true, false, false, true, true]) (EF 126 (updF (updF (updF (updF (updF (updF (updF f 0 (some (.pointer (some ⟨p53, o53, none⟩)))) 1 (some (.pointer (some ⟨p54, o54, none⟩)))) 2 (some (.int .i64 n55))) 3 (some (.int .i64 n56))) 8 (some (.int .i64 n57))) 15 (some (.int .i64 n58))) 16 (some (.int .i64 n59)))) h60 (F55.CJ7 call lf ro kb1) = F55.J7 call lf ro kb1 p53 o53 p54 o54 n55 n56 n57 n58 n59 h60 := by kernel_rfl

theorem F55.CKJ7 (call : CT) (lf ro : Nat) (kb1 : Nat → Nat → Nat → Nat → Int → Int → Int → Int → Heap → Out) : KLe 126 (F55.CJ7 call lf ro kb1) (F55.KJ7 call lf ro kb1) :=
  (KLe.block (KLe.seq (H := (F55.H1 call lf ro kb1)) (J := (F55.U1 call lf ro kb1)) (KLe.refl _) (hd_free rfl)))

theorem F55.BJ7 (call : CT) (lf ro : Nat) (kb1 : Nat → Nat → Nat → Nat → Int → Int → Int → Int → Heap → Out) : ∀ e h, Shaped 126 e → LeO (F55.PJ7 (F55.J7 call lf ro kb1) e h) (execK Tryd.prog call lf ro (sub (codeOf Tryd.f55) [false, true, false, false, true, true, false, false, true, true]) e h (F55.KJ7 call lf ro kb1)) := by
    rintro e h ⟨f, rfl⟩
    unfold F55.PJ7
    refine getK_le fun w0 g0 => ?_
    rw [EF_get (by decide)] at g0
    refine ptrK_le fun p403 o403 z501 => ?_
    subst z501
    refine getK_le fun w1 g1 => ?_
    rw [EF_get (by decide)] at g1
    refine ptrK_le fun p404 o404 z502 => ?_
    subst z502
    refine getK_le fun w2 g2 => ?_
    rw [EF_get (by decide)] at g2
    refine intK_le fun n405 z503 => ?_
    subst z503
    refine getK_le fun w3 g3 => ?_
    rw [EF_get (by decide)] at g3
    refine intK_le fun n406 z504 => ?_
    subst z504
    refine getK_le fun w8 g8 => ?_
    rw [EF_get (by decide)] at g8
    refine intK_le fun n407 z505 => ?_
    subst z505
    refine getK_le fun w15 g15 => ?_
    rw [EF_get (by decide)] at g15
    refine intK_le fun n408 z506 => ?_
    subst z506
    refine getK_le fun w16 g16 => ?_
    rw [EF_get (by decide)] at g16
    refine intK_le fun n409 z507 => ?_
    subst z507
    have hr := F55.RJ7 call lf ro kb1 f p403 o403 p404 o404 n405 n406 n407 n408 n409 h
    rw [updF_same g0, updF_same g1, updF_same g2, updF_same g3, updF_same g8, updF_same g15, updF_same g16] at hr
    exact cut_le (H := (F55.H1 call lf ro kb1)) (J := (F55.U1 call lf ro kb1)) (F55.CKJ7 call lf ro kb1) (hd_free rfl) hr

theorem F55.RJ2 (call : CT) (lf ro : Nat) (kb1 : Nat → Nat → Nat → Nat → Int → Int → Int → Int → Heap → Out) (f : Nat → Option Value) (p14 : Nat) (o14 : Nat) (p15 : Nat) (o15 : Nat) (n16 : Int) (n17 : Int) (n18 : Int) (n19 : Int) (h20 : Heap) :
    execH Tryd.prog call ro (F55.H1 call lf ro kb1) (F55.U1 call lf ro kb1) (sub (codeOf Tryd.f55) [false, true, false, false, true, true]) (EF 126 (updF (updF (updF (updF (updF (updF f 0 (some (.pointer (some ⟨p14, o14, none⟩)))) 1 (some (.pointer (some ⟨p15, o15, none⟩)))) 2 (some (.int .i64 n16))) 3 (some (.int .i64 n17))) 15 (some (.int .i64 n18))) 16 (some (.int .i64 n19)))) h20 (F55.CJ2 call lf ro kb1) = F55.J2 call lf ro kb1 p14 o14 p15 o15 n16 n17 n18 n19 h20 := by kernel_rfl

theorem F55.CKJ2 (call : CT) (lf ro : Nat) (kb1 : Nat → Nat → Nat → Nat → Int → Int → Int → Int → Heap → Out) : KLe 126 (F55.CJ2 call lf ro kb1) (F55.KJ2 call lf ro kb1) :=
  (KLe.refl _)

theorem F55.BJ2 (call : CT) (lf ro : Nat) (kb1 : Nat → Nat → Nat → Nat → Int → Int → Int → Int → Heap → Out) : ∀ e h, Shaped 126 e → LeO (F55.PJ2 (F55.J2 call lf ro kb1) e h) (execK Tryd.prog call lf ro (sub (codeOf Tryd.f55) [false, true, false, false, true, true]) e h (F55.KJ2 call lf ro kb1)) := by
    rintro e h ⟨f, rfl⟩
    unfold F55.PJ2
    refine getK_le fun w0 g0 => ?_
    rw [EF_get (by decide)] at g0
    refine ptrK_le fun p442 o442 z515 => ?_
    subst z515
    refine getK_le fun w1 g1 => ?_
    rw [EF_get (by decide)] at g1
    refine ptrK_le fun p443 o443 z516 => ?_
    subst z516
    refine getK_le fun w2 g2 => ?_
    rw [EF_get (by decide)] at g2
    refine intK_le fun n444 z517 => ?_
    subst z517
    refine getK_le fun w3 g3 => ?_
    rw [EF_get (by decide)] at g3
    refine intK_le fun n445 z518 => ?_
    subst z518
    refine getK_le fun w15 g15 => ?_
    rw [EF_get (by decide)] at g15
    refine intK_le fun n446 z519 => ?_
    subst z519
    refine getK_le fun w16 g16 => ?_
    rw [EF_get (by decide)] at g16
    refine intK_le fun n447 z520 => ?_
    subst z520
    have hr := F55.RJ2 call lf ro kb1 f p442 o442 p443 o443 n444 n445 n446 n447 h
    rw [updF_same g0, updF_same g1, updF_same g2, updF_same g3, updF_same g15, updF_same g16] at hr
    exact cut_le (H := (F55.H1 call lf ro kb1)) (J := (F55.U1 call lf ro kb1)) (F55.CKJ2 call lf ro kb1) ⟨⟨(hd_free rfl), ⟨(hd_free rfl), (fun e h hs => F55.BJ7 call lf ro kb1 e h hs)⟩⟩, (hd_free rfl)⟩ hr

theorem F55.RJ15 (call : CT) (lf ro : Nat) (f : Nat → Option Value) (p457 : Nat) (o457 : Nat) (b458 : Bool) (h459 : Heap) :
    execH Tryd.prog call ro (F55.Ht call lf ro) (F55.Ut call lf ro) (sub (codeOf Tryd.f55) [true, true]) (EF 126 (updF (updF f 0 (some (.pointer (some ⟨p457, o457, none⟩)))) 99 (some (.bool b458)))) h459 (F55.CJ15 call lf ro) = F55.J15 call lf ro p457 o457 b458 h459 := by kernel_rfl

theorem F55.CKJ15 (call : CT) (lf ro : Nat) : KLe 126 (F55.CJ15 call lf ro) (F55.KJ15 call lf ro) :=
  (KLe.refl _)

theorem F55.BJ15 (call : CT) (lf ro : Nat) : ∀ e h, Shaped 126 e → LeO (F55.PJ15 (F55.J15 call lf ro) e h) (execK Tryd.prog call lf ro (sub (codeOf Tryd.f55) [true, true]) e h (F55.KJ15 call lf ro)) := by
    rintro e h ⟨f, rfl⟩
    unfold F55.PJ15
    refine getK_le fun w0 g0 => ?_
    rw [EF_get (by decide)] at g0
    refine ptrK_le fun p491 o491 z527 => ?_
    subst z527
    refine getK_le fun w99 g99 => ?_
    rw [EF_get (by decide)] at g99
    refine boolK_le fun b492 z528 => ?_
    subst z528
    have hr := F55.RJ15 call lf ro f p491 o491 b492 h
    rw [updF_same g0, updF_same g99] at hr
    exact cut_le (H := (F55.Ht call lf ro)) (J := (F55.Ut call lf ro)) (F55.CKJ15 call lf ro) (hd_free rfl) hr

theorem F55.RJ14 (call : CT) (lf ro : Nat) (f : Nat → Option Value) (p448 : Nat) (o448 : Nat) (n449 : Int) (h450 : Heap) :
    execH Tryd.prog call ro (F55.Ht call lf ro) (F55.Ut call lf ro) (sub (codeOf Tryd.f55) [true]) (EF 126 (updF (updF f 0 (some (.pointer (some ⟨p448, o448, none⟩)))) 2 (some (.int .i64 n449)))) h450 (F55.CJ14 call lf ro) = F55.J14 call lf ro p448 o448 n449 h450 := by kernel_rfl

theorem F55.CKJ14 (call : CT) (lf ro : Nat) : KLe 126 (F55.CJ14 call lf ro) (F55.KJ14 call lf ro) :=
  (KLe.refl _)

theorem F55.BJ14 (call : CT) (lf ro : Nat) : ∀ e h, Shaped 126 e → LeO (F55.PJ14 (F55.J14 call lf ro) e h) (execK Tryd.prog call lf ro (sub (codeOf Tryd.f55) [true]) e h (F55.KJ14 call lf ro)) := by
    rintro e h ⟨f, rfl⟩
    unfold F55.PJ14
    refine getK_le fun w0 g0 => ?_
    rw [EF_get (by decide)] at g0
    refine ptrK_le fun p493 o493 z531 => ?_
    subst z531
    refine getK_le fun w2 g2 => ?_
    rw [EF_get (by decide)] at g2
    refine intK_le fun n494 z532 => ?_
    subst z532
    have hr := F55.RJ14 call lf ro f p493 o493 n494 h
    rw [updF_same g0, updF_same g2] at hr
    exact cut_le (H := (F55.Ht call lf ro)) (J := (F55.Ut call lf ro)) (F55.CKJ14 call lf ro) ⟨(hd_free rfl), (fun e h hs => F55.BJ15 call lf ro  e h hs)⟩ hr

theorem F55.R1 (call : CT) (lf ro : Nat) (n : Nat) (f : Nat → Option Value) (p7 : Nat) (o7 : Nat) (p8 : Nat) (o8 : Nat) (n9 : Int) (n10 : Int) (n11 : Int) (n12 : Int) (h13 : Heap) :
    execH Tryd.prog call ro (F55.H1 call lf ro (F55.L1 call lf ro n)) (F55.U1 call lf ro (F55.L1 call lf ro n)) (sub (codeOf Tryd.f55) [false, true, false, false]) (EF 126 (updF (updF (updF (updF (updF (updF f 0 (some (.pointer (some ⟨p7, o7, none⟩)))) 1 (some (.pointer (some ⟨p8, o8, none⟩)))) 2 (some (.int .i64 n9))) 3 (some (.int .i64 n10))) 15 (some (.int .i64 n11))) 16 (some (.int .i64 n12)))) h13 (outK (F55.P1 (F55.L1 call lf ro n)) (fun i e h => F55.C1 call lf ro (.exit i e h)) (fun e h => F55.C1 call lf ro (.ret e h))) = F55.L1 call lf ro (n + 1) p7 o7 p8 o8 n9 n10 n11 n12 h13 := by kernel_rfl

theorem F55.CK1 (call : CT) (lf ro : Nat) : KLe 126 (F55.C1 call lf ro) (F55.K1 call lf ro) :=
  (KLe.block (KLe.seq (H := (F55.Ht call lf ro)) (J := (F55.Ut call lf ro)) (KLe.refl _) (fun e h hs => F55.BJ14 call lf ro  e h hs)))

theorem F55.B1 (call : CT) (lf ro : Nat) : ∀ n e h, Shaped 126 e → LeO (F55.P1 (F55.L1 call lf ro n) e h) (loopK (execK Tryd.prog call lf ro (sub (codeOf Tryd.f55) [false, true, false, false])) n e h (F55.K1 call lf ro)) := by
  refine loop_le (fun e h k k' hs hk => execK_mono _ e h k k' hs hk) (kb := fun n => F55.P1 (F55.L1 call lf ro n)) (kx := fun i e h => F55.C1 call lf ro (.exit i e h)) (kr := fun e h => F55.C1 call lf ro (.ret e h)) ?_ ?_ (fun i e h hs => (F55.CK1 call lf ro).exit i e h hs) (fun e h hs => (F55.CK1 call lf ro).ret e h hs)
  · rintro e h ⟨f, rfl⟩
    unfold F55.P1
    refine getK_le fun w0 g0 => ?_
    rw [EF_get (by decide)] at g0
    refine ptrK_le fun p495 o495 z535 => ?_
    subst z535
    refine getK_le fun w1 g1 => ?_
    rw [EF_get (by decide)] at g1
    refine ptrK_le fun p496 o496 z536 => ?_
    subst z536
    refine getK_le fun w2 g2 => ?_
    rw [EF_get (by decide)] at g2
    refine intK_le fun n497 z537 => ?_
    subst z537
    refine getK_le fun w3 g3 => ?_
    rw [EF_get (by decide)] at g3
    refine intK_le fun n498 z538 => ?_
    subst z538
    refine getK_le fun w15 g15 => ?_
    rw [EF_get (by decide)] at g15
    refine intK_le fun n499 z539 => ?_
    subst z539
    refine getK_le fun w16 g16 => ?_
    rw [EF_get (by decide)] at g16
    refine intK_le fun n500 z540 => ?_
    subst z540
    exact LeO.refl _
  · rintro n e h ⟨f, rfl⟩
    unfold F55.P1
    refine getK_le fun w0 g0 => ?_
    rw [EF_get (by decide)] at g0
    refine ptrK_le fun p495 o495 z541 => ?_
    subst z541
    refine getK_le fun w1 g1 => ?_
    rw [EF_get (by decide)] at g1
    refine ptrK_le fun p496 o496 z542 => ?_
    subst z542
    refine getK_le fun w2 g2 => ?_
    rw [EF_get (by decide)] at g2
    refine intK_le fun n497 z543 => ?_
    subst z543
    refine getK_le fun w3 g3 => ?_
    rw [EF_get (by decide)] at g3
    refine intK_le fun n498 z544 => ?_
    subst z544
    refine getK_le fun w15 g15 => ?_
    rw [EF_get (by decide)] at g15
    refine intK_le fun n499 z545 => ?_
    subst z545
    refine getK_le fun w16 g16 => ?_
    rw [EF_get (by decide)] at g16
    refine intK_le fun n500 z546 => ?_
    subst z546
    have hr := F55.R1 call lf ro n f p495 o495 p496 o496 n497 n498 n499 n500 h
    rw [updF_same g0, updF_same g1, updF_same g2, updF_same g3, updF_same g15, updF_same g16] at hr
    exact round_le (H := (F55.H1 call lf ro (F55.L1 call lf ro n))) (J := (F55.U1 call lf ro (F55.L1 call lf ro n))) ⟨(hd_free rfl), ⟨(hd_free rfl), (fun e h hs => F55.BJ2 call lf ro (F55.L1 call lf ro n) e h hs)⟩⟩ hr

theorem F55.le (call : CT) (lf ro : Nat) (px0 : Nat) (ox0 : Nat) (px1 : Nat) (ox1 : Nat) (x2 : Int) (x3 : Int) (h : Heap) : LeO (F55.t call lf ro px0 ox0 px1 ox1 x2 x3 h) (bodyK Tryd.prog call lf ro Tryd.f55 [.pointer (some ⟨px0, ox0, none⟩), .pointer (some ⟨px1, ox1, none⟩), .int .i64 x2, .int .i64 x3] h) :=
  body_le (c := codeOf Tryd.f55) (H := F55.Ht call lf ro) (J := F55.Ut call lf ro) rfl (Nat.le_of_ble_eq_true rfl) ⟨⟨(hd_free rfl), (fun e h hs => F55.B1 call lf ro  lf e h hs)⟩, (fun e h hs => F55.BJ14 call lf ro  e h hs)⟩ (by kernel_rfl)

/-! ### (*barscan/netpbm.parser).raw: function 56 -/

noncomputable def F56.J8 (call : CT) (lf ro : Nat) (kb7 : Nat → Nat → Nat → Nat → Int → Int → Int → Int → Int → Heap → Out) (p98 : Nat) (o98 : Nat) (p99 : Nat) (o99 : Nat) (n100 : Int) (n101 : Int) (n102 : Int) (n103 : Int) (n104 : Int) (h105 : Heap) : Out :=
  letJ (fun (h582 : Heap) =>
  (kb7 p98 o98 p99 o99 n100 n101 n102 n103 (IntKind.i64.wrap (n104 + 1)) h582)) fun j583 =>
  bindN (loadO Tryd.prog 3 (.pointer (some ⟨p99, o99 + 0, none⟩)) h105) fun v596 h597 =>
  intK .i64 v596 fun n598 =>
  bindN (binO Tryd.prog .rem 3 false (.int .i64 n104) (.int .i64 n598) h597) fun v599 h600 =>
  intK .i64 v599 fun n601 =>
  bindN (loadO Tryd.prog 3 (.pointer (some ⟨p99, o99 + 0, none⟩)) h600) fun v602 h603 =>
  intK .i64 v602 fun n604 =>
  bindN (binO Tryd.prog .quo 3 false (.int .i64 n104) (.int .i64 n604) h603) fun v605 h606 =>
  intK .i64 v605 fun n607 =>
  ifK (n100 == 4) (bindN (loadO Tryd.prog 22 (.pointer (some ⟨p99, o99 + 2, none⟩)) h606) fun v680 h681 =>
  sliceK v680 fun a682 l682 c682 =>
  bindN (loadO Tryd.prog 22 (.pointer (some ⟨p98, o98 + 0, none⟩)) h681) fun v683 h684 =>
  sliceK v683 fun a685 l685 c685 =>
  bindN (loadO Tryd.prog 3 (.pointer (some ⟨p98, o98 + 1, none⟩)) h684) fun v686 h687 =>
  intK .i64 v686 fun n688 =>
  bindN (idxO Tryd.prog 22 (.slice a685 l685 c685) (.int .i64 (IntKind.i64.wrap ((IntKind.i64.wrap (n688 + (IntKind.i64.wrap (n607 * n102)))) + (IntKind.i64.wrap (Int.tdiv n601 8))))) h687) fun v689 h690 =>
  bindN (loadO Tryd.prog 5 v689 h690) fun v691 h692 =>
  intK .u8 v691 fun n693 =>
  bindN (binO Tryd.prog .shr 5 false (.int .u8 n693) (.int .u64 (IntKind.u64.wrap (IntKind.i64.wrap (7 - (Int.tmod n601 8))))) h692) fun v694 h695 =>
  intK .u8 v694 fun n696 =>
  bindN (call h695.next 68 [.bool ((bAnd .u8 n696 1) == 1)] h695) fun v697 h698 =>
  intK .u8 v697 fun n699 =>
  bindO (idxO Tryd.prog 22 (.slice a682 l682 c682) (.int .i64 n104) h698) fun v700 h701 =>
  bindO (storeO Tryd.prog ro 5 v700 (.int .u8 n699) h701) fun v702 h703 =>
  j583 h703) (bindN (loadO Tryd.prog 22 (.pointer (some ⟨p98, o98 + 0, none⟩)) h606) fun v715 h716 =>
  sliceK v715 fun a717 l717 c717 =>
  bindN (loadO Tryd.prog 3 (.pointer (some ⟨p98, o98 + 1, none⟩)) h716) fun v718 h719 =>
  intK .i64 v718 fun n720 =>
  bindO (idxO Tryd.prog 22 (.slice a717 l717 c717) (.int .i64 (IntKind.i64.wrap (n720 + n104))) h719) fun v721 h722 =>
  bindO (loadO Tryd.prog 5 v721 h722) fun v723 h724 =>
  intK .u8 v723 fun n725 =>
  bindO (call ro 52 [.pointer (some ⟨p98, o98, none⟩), .bool (decide (IntKind.i64.wrap n725 ≤ n101)), .int .i64 3] h724) fun v729 h730 =>
  tupK v729 fun q731 =>
  nilK q731 <|
  bindN (loadO Tryd.prog 22 (.pointer (some ⟨p99, o99 + 2, none⟩)) h730) fun v732 h733 =>
  sliceK v732 fun a734 l734 c734 =>
  bindN (call h733.next 66 [.int .i64 (IntKind.i64.wrap n725), .int .i64 n101] h733) fun v735 h736 =>
  intK .u8 v735 fun n737 =>
  bindO (idxO Tryd.prog 22 (.slice a734 l734 c734) (.int .i64 n104) h736) fun v738 h739 =>
  bindO (storeO Tryd.prog ro 5 v738 (.int .u8 n737) h739) fun v740 h741 =>
  j583 h741)

noncomputable def F56.PJ8 (kb : Nat → Nat → Nat → Nat → Int → Int → Int → Int → Int → Heap → Out) (e : Env) (h : Heap) : Out :=
  getK (e.get 0) fun w0 =>
  ptrK w0 fun p742 o742 =>
  getK (e.get 1) fun w1 =>
  ptrK w1 fun p743 o743 =>
  getK (e.get 2) fun w2 =>
  intK .i64 w2 fun n744 =>
  getK (e.get 3) fun w3 =>
  intK .i64 w3 fun n745 =>
  getK (e.get 8) fun w8 =>
  intK .i64 w8 fun n746 =>
  getK (e.get 68) fun w68 =>
  intK .i64 w68 fun n747 =>
  getK (e.get 69) fun w69 =>
  intK .i64 w69 fun n748 =>
  kb p742 o742 p743 o743 n744 n745 n746 n747 n748 h

noncomputable def F56.L7 (call : CT) (lf ro : Nat) : Nat → Nat → Nat → Nat → Nat → Int → Int → Int → Int → Int → Heap → Out
  | 0, _, _, _, _, _, _, _, _, _, _ => .fail
  | n + 1, p90, o90, p91, o91, n92, n93, n94, n95, n96, h97 =>
  ifK (decide (n96 < n95)) (F56.J8 call lf ro (F56.L7 call lf ro n) p90 o90 p91 o91 n92 n93 n94 n95 n96 h97) (bindN (loadO Tryd.prog 3 (.pointer (some ⟨p90, o90 + 1, none⟩)) h97) fun v749 h750 =>
  intK .i64 v749 fun n751 =>
  bindN (loadO Tryd.prog 3 (.pointer (some ⟨p91, o91 + 1, none⟩)) h750) fun v752 h753 =>
  intK .i64 v752 fun n754 =>
  bindO (storeO Tryd.prog ro 3 (.pointer (some ⟨p90, o90 + 1, none⟩)) (.int .i64 (IntKind.i64.wrap (n751 + (IntKind.i64.wrap (n94 * n754))))) h753) fun v755 h756 =>
  Out.ok (.tuple #[]) h756)

noncomputable def F56.P7 (kb : Nat → Nat → Nat → Nat → Int → Int → Int → Int → Int → Heap → Out) (e : Env) (h : Heap) : Out :=
  getK (e.get 0) fun w0 =>
  ptrK w0 fun p757 o757 =>
  getK (e.get 1) fun w1 =>
  ptrK w1 fun p758 o758 =>
  getK (e.get 2) fun w2 =>
  intK .i64 w2 fun n759 =>
  getK (e.get 3) fun w3 =>
  intK .i64 w3 fun n760 =>
  getK (e.get 8) fun w8 =>
  intK .i64 w8 fun n761 =>
  getK (e.get 68) fun w68 =>
  intK .i64 w68 fun n762 =>
  getK (e.get 69) fun w69 =>
  intK .i64 w69 fun n763 =>
  kb p757 o757 p758 o758 n759 n760 n761 n762 n763 h

noncomputable def F56.J5 (call : CT) (lf ro : Nat) (p54 : Nat) (o54 : Nat) (p55 : Nat) (o55 : Nat) (n56 : Int) (n57 : Int) (n58 : Int) (h59 : Heap) : Out :=
  bindN (loadO Tryd.prog 22 (.pointer (some ⟨p54, o54 + 0, none⟩)) h59) fun v72 h73 =>
  sliceK v72 fun a74 l74 c74 =>
  bindN (loadO Tryd.prog 3 (.pointer (some ⟨p54, o54 + 1, none⟩)) h73) fun v75 h76 =>
  intK .i64 v75 fun n77 =>
  bindN (loadO Tryd.prog 3 (.pointer (some ⟨p55, o55 + 1, none⟩)) h76) fun v78 h79 =>
  intK .i64 v78 fun n80 =>
  bindO (call ro 52 [.pointer (some ⟨p54, o54, none⟩), .bool (decide (IntKind.i64.wrap ((l74 : Int) - n77) ≥ IntKind.i64.wrap (n58 * n80))), .int .i64 10] h79) fun v81 h82 =>
  tupK v81 fun q83 =>
  nilK q83 <|
  bindO (loadO Tryd.prog 22 (.pointer (some ⟨p55, o55 + 2, none⟩)) h82) fun v87 h88 =>
  sliceK v87 fun a89 l89 c89 =>
  F56.L7 call lf ro lf p54 o54 p55 o55 n56 n57 n58 (l89 : Int) 0 h88

noncomputable def F56.PJ5 (kb : Nat → Nat → Nat → Nat → Int → Int → Int → Heap → Out) (e : Env) (h : Heap) : Out :=
  getK (e.get 0) fun w0 =>
  ptrK w0 fun p764 o764 =>
  getK (e.get 1) fun w1 =>
  ptrK w1 fun p765 o765 =>
  getK (e.get 2) fun w2 =>
  intK .i64 w2 fun n766 =>
  getK (e.get 3) fun w3 =>
  intK .i64 w3 fun n767 =>
  getK (e.get 8) fun w8 =>
  intK .i64 w8 fun n768 =>
  kb p764 o764 p765 o765 n766 n767 n768 h

noncomputable def F56.t (call : CT) (lf ro : Nat) (px0 : Nat) (ox0 : Nat) (px1 : Nat) (ox1 : Nat) (x2 : Int) (x3 : Int) (h : Heap) : Out :=
  bindN (loadO Tryd.prog 22 (.pointer (some ⟨px0, ox0 + 0, none⟩)) h) fun v18 h19 =>
  sliceK v18 fun a20 l20 c20 =>
  bindN (loadO Tryd.prog 3 (.pointer (some ⟨px0, ox0 + 1, none⟩)) h19) fun v21 h22 =>
  intK .i64 v21 fun n23 =>
  bindN (idxO Tryd.prog 22 (.slice a20 l20 c20) (.int .i64 n23) h22) fun v24 h25 =>
  bindN (loadO Tryd.prog 5 v24 h25) fun v26 h27 =>
  intK .u8 v26 fun n28 =>
  bindN (call ro 36 [.int .u8 n28] h27) fun v29 h30 =>
  boolK v29 fun b31 =>
  bindO (call ro 52 [.pointer (some ⟨px0, ox0, none⟩), .bool b31, .int .i64 9] h30) fun v32 h33 =>
  tupK v32 fun q34 =>
  nilK q34 <|
  bindO (loadO Tryd.prog 3 (.pointer (some ⟨px0, ox0 + 1, none⟩)) h33) fun v40 h41 =>
  intK .i64 v40 fun n42 =>
  bindO (storeO Tryd.prog ro 3 (.pointer (some ⟨px0, ox0 + 1, none⟩)) (.int .i64 (IntKind.i64.wrap (n42 + 1))) h41) fun v43 h44 =>
  bindO (loadO Tryd.prog 3 (.pointer (some ⟨px1, ox1 + 0, none⟩)) h44) fun v48 h49 =>
  intK .i64 v48 fun n50 =>
  ifK (x2 == 4) (bindO (loadO Tryd.prog 3 (.pointer (some ⟨px1, ox1 + 0, none⟩)) h49) fun v51 h52 =>
  intK .i64 v51 fun n53 =>
  F56.J5 call lf ro px0 ox0 px1 ox1 x2 x3 (IntKind.i64.wrap (Int.tdiv (IntKind.i64.wrap (n53 + 7)) 8)) h52) (F56.J5 call lf ro px0 ox0 px1 ox1 x2 x3 n50 h49)

noncomputable def F56.Ht (call : CT) (lf ro : Nat) (i : Nat) (e : Env) (h : Heap) : Out := ifK (i == 7) (F56.P7 (F56.L7 call lf ro lf) e h) (.fail)
noncomputable def F56.Ut (call : CT) (lf ro : Nat) (i : Nat) : Option (Env → Heap → Out) := ifJ (i == 5) (some (F56.PJ5 (F56.J5 call lf ro))) (none)

noncomputable def F56.H7 (call : CT) (lf ro : Nat) (kb7 : Nat → Nat → Nat → Nat → Int → Int → Int → Int → Int → Heap → Out) (i : Nat) (e : Env) (h : Heap) : Out := ifK (i == 7) (F56.P7 (F56.L7 call lf ro lf) e h) (.fail)
noncomputable def F56.U7 (call : CT) (lf ro : Nat) (kb7 : Nat → Nat → Nat → Nat → Int → Int → Int → Int → Int → Heap → Out) (i : Nat) : Option (Env → Heap → Out) := ifJ (i == 8) (some (F56.PJ8 (F56.J8 call lf ro kb7))) (ifJ (i == 5) (some (F56.PJ5 (F56.J5 call lf ro))) (none))

noncomputable def F56.C7 (call : CT) (lf ro : Nat) : COut → Out := blockK 0 (seqH Tryd.prog call ro (F56.Ht call lf ro) (F56.Ut call lf ro) (sub (codeOf Tryd.f56) [true, true, true, true, true, true]) (endK Tryd.prog Tryd.f56))

noncomputable def F56.K7 (call : CT) (lf ro : Nat) : COut → Out := blockK 0 (seqK Tryd.prog call lf ro (sub (codeOf Tryd.f56) [true, true, true, true, true, true]) (endK Tryd.prog Tryd.f56))

noncomputable def F56.CJ5 (call : CT) (lf ro : Nat) : COut → Out := endK Tryd.prog Tryd.f56

noncomputable def F56.KJ5 (call : CT) (lf ro : Nat) : COut → Out := endK Tryd.prog Tryd.f56

noncomputable def F56.CJ8 (call : CT) (lf ro : Nat) (kb7 : Nat → Nat → Nat → Nat → Int → Int → Int → Int → Int → Heap → Out) : COut → Out := outK (F56.P7 kb7) (fun i e h => F56.C7 call lf ro (.exit i e h)) (fun e h => F56.C7 call lf ro (.ret e h))

noncomputable def F56.KJ8 (call : CT) (lf ro : Nat) (kb7 : Nat → Nat → Nat → Nat → Int → Int → Int → Int → Int → Heap → Out) : COut → Out := outK (F56.P7 kb7) (fun i e h => F56.C7 call lf ro (.exit i e h)) (fun e h => F56.C7 call lf ro (.ret e h))

theorem F56.RJ8 (call : CT) (lf ro : Nat) (kb7 : Nat → Nat → Nat → Nat → Int → Int → Int → Int → Int → Heap → Out) (f : Nat → Option Value) (p98 : Nat) (o98 : Nat) (p99 : Nat) (o99 : Nat) (n100 : Int) (n101 : Int) (n102 : Int) (n103 : Int) (n104 : Int) (h105 : Heap) :
    execH Tryd.prog call ro (F56.H7 call lf ro kb7) (F56.U7 call lf ro kb7) (sub (codeOf Tryd.f56) [true, true, true, true, true, false, true, false, false, true, true]) (EF 158 (updF (updF (updF (updF (updF (updF (updF f 0 (some (.pointer (some ⟨p98, o98, none⟩)))) 1 (some (.pointer (some ⟨p99, o99, none⟩)))) 2 (some (.int .i64 n100))) 3 (some (.int .i64 n101))) 8 (some (.int .i64 n102))) 68 (some (.int .i64 n103))) 69 (some (.int .i64 n104)))) h105 (F56.CJ8 call lf ro kb7) = F56.J8 call lf ro kb7 p98 o98 p99 o99 n100 n101 n102 n103 n104 h105 := by kernel_rfl

theorem F56.CKJ8 (call : CT) (lf ro : Nat) (kb7 : Nat → Nat → Nat → Nat → Int → Int → Int → Int → Int → Heap → Out) : KLe 158 (F56.CJ8 call lf ro kb7) (F56.KJ8 call lf ro kb7) :=
  (KLe.refl _)

theorem F56.BJ8 (call : CT) (lf ro : Nat) (kb7 : Nat → Nat → Nat → Nat → Int → Int → Int → Int → Int → Heap → Out) : ∀ e h, Shaped 158 e → LeO (F56.PJ8 (F56.J8 call lf ro kb7) e h) (execK Tryd.prog call lf ro (sub (codeOf Tryd.f56) [true, true, true, true, true, false, true, false, false, true, true]) e h (F56.KJ8 call lf ro kb7)) := by
    rintro e h ⟨f, rfl⟩
    unfold F56.PJ8
    refine getK_le fun w0 g0 => ?_
    rw [EF_get (by decide)] at g0
    refine ptrK_le fun p742 o742 z769 => ?_
    subst z769
    refine getK_le fun w1 g1 => ?_
    rw [EF_get (by decide)] at g1
    refine ptrK_le fun p743 o743 z770 => ?_
    subst z770
    refine getK_le fun w2 g2 => ?_
    rw [EF_get (by decide)] at g2
    refine intK_le fun n744 z771 => ?_
    subst z771
    refine getK_le fun w3 g3 => ?_
    rw [EF_get (by decide)] at g3
    refine intK_le fun n745 z772 => ?_
    subst z772
    refine getK_le fun w8 g8 => ?_
    rw [EF_get (by decide)] at g8
    refine intK_le fun n746 z773 => ?_
    subst z773
    refine getK_le fun w68 g68 => ?_
    rw [EF_get (by decide)] at g68
    refine intK_le fun n747 z774 => ?_
    subst z774
    refine getK_le fun w69 g69 => ?_
    rw [EF_get (by decide)] at g69
    refine intK_le fun n748 z775 => ?_
    subst z775
    have hr := F56.RJ8 call lf ro kb7 f p742 o742 p743 o743 n744 n745 n746 n747 n748 h
    rw [updF_same g0, updF_same g1, updF_same g2, updF_same g3, updF_same g8, updF_same g68, updF_same g69] at hr
    exact cut_le (H := (F56.H7 call lf ro kb7)) (J := (F56.U7 call lf ro kb7)) (F56.CKJ8 call lf ro kb7) (hd_free rfl) hr

theorem F56.R7 (call : CT) (lf ro : Nat) (n : Nat) (f : Nat → Option Value) (p90 : Nat) (o90 : Nat) (p91 : Nat) (o91 : Nat) (n92 : Int) (n93 : Int) (n94 : Int) (n95 : Int) (n96 : Int) (h97 : Heap) :
    execH Tryd.prog call ro (F56.H7 call lf ro (F56.L7 call lf ro n)) (F56.U7 call lf ro (F56.L7 call lf ro n)) (sub (codeOf Tryd.f56) [true, true, true, true, true, false, true, false, false]) (EF 158 (updF (updF (updF (updF (updF (updF (updF f 0 (some (.pointer (some ⟨p90, o90, none⟩)))) 1 (some (.pointer (some ⟨p91, o91, none⟩)))) 2 (some (.int .i64 n92))) 3 (some (.int .i64 n93))) 8 (some (.int .i64 n94))) 68 (some (.int .i64 n95))) 69 (some (.int .i64 n96)))) h97 (outK (F56.P7 (F56.L7 call lf ro n)) (fun i e h => F56.C7 call lf ro (.exit i e h)) (fun e h => F56.C7 call lf ro (.ret e h))) = F56.L7 call lf ro (n + 1) p90 o90 p91 o91 n92 n93 n94 n95 n96 h97 := by kernel_rfl

theorem F56.CK7 (call : CT) (lf ro : Nat) : KLe 158 (F56.C7 call lf ro) (F56.K7 call lf ro) :=
  (KLe.block (KLe.seq (H := (F56.Ht call lf ro)) (J := (F56.Ut call lf ro)) (KLe.refl _) (hd_free rfl)))

theorem F56.B7 (call : CT) (lf ro : Nat) : ∀ n e h, Shaped 158 e → LeO (F56.P7 (F56.L7 call lf ro n) e h) (loopK (execK Tryd.prog call lf ro (sub (codeOf Tryd.f56) [true, true, true, true, true, false, true, false, false])) n e h (F56.K7 call lf ro)) := by
  refine loop_le (fun e h k k' hs hk => execK_mono _ e h k k' hs hk) (kb := fun n => F56.P7 (F56.L7 call lf ro n)) (kx := fun i e h => F56.C7 call lf ro (.exit i e h)) (kr := fun e h => F56.C7 call lf ro (.ret e h)) ?_ ?_ (fun i e h hs => (F56.CK7 call lf ro).exit i e h hs) (fun e h hs => (F56.CK7 call lf ro).ret e h hs)
  · rintro e h ⟨f, rfl⟩
    unfold F56.P7
    refine getK_le fun w0 g0 => ?_
    rw [EF_get (by decide)] at g0
    refine ptrK_le fun p757 o757 z783 => ?_
    subst z783
    refine getK_le fun w1 g1 => ?_
    rw [EF_get (by decide)] at g1
    refine ptrK_le fun p758 o758 z784 => ?_
    subst z784
    refine getK_le fun w2 g2 => ?_
    rw [EF_get (by decide)] at g2
    refine intK_le fun n759 z785 => ?_
    subst z785
    refine getK_le fun w3 g3 => ?_
    rw [EF_get (by decide)] at g3
    refine intK_le fun n760 z786 => ?_
    subst z786
    refine getK_le fun w8 g8 => ?_
    rw [EF_get (by decide)] at g8
    refine intK_le fun n761 z787 => ?_
    subst z787
    refine getK_le fun w68 g68 => ?_
    rw [EF_get (by decide)] at g68
    refine intK_le fun n762 z788 => ?_
    subst z788
    refine getK_le fun w69 g69 => ?_
    rw [EF_get (by decide)] at g69
    refine intK_le fun n763 z789 => ?_
    subst z789
    exact LeO.refl _
  · rintro n e h ⟨f, rfl⟩
    unfold F56.P7
    refine getK_le fun w0 g0 => ?_
    rw [EF_get (by decide)] at g0
    refine ptrK_le fun p757 o757 z790 => ?_
    subst z790
    refine getK_le fun w1 g1 => ?_
    rw [EF_get (by decide)] at g1
    refine ptrK_le fun p758 o758 z791 => ?_
    subst z791
    refine getK_le fun w2 g2 => ?_
    rw [EF_get (by decide)] at g2
    refine intK_le fun n759 z792 => ?_
    subst z792
    refine getK_le fun w3 g3 => ?_
    rw [EF_get (by decide)] at g3
    refine intK_le fun n760 z793 => ?_
    subst z793
    refine getK_le fun w8 g8 => ?_
    rw [EF_get (by decide)] at g8
    refine intK_le fun n761 z794 => ?_
    subst z794
    refine getK_le fun w68 g68 => ?_
    rw [EF_get (by decide)] at g68
    refine intK_le fun n762 z795 => ?_
    subst z795
    refine getK_le fun w69 g69 => ?_
    rw [EF_get (by decide)] at g69
    refine intK_le fun n763 z796 => ?_
    subst z796
    have hr := F56.R7 call lf ro n f p757 o757 p758 o758 n759 n760 n761 n762 n763 h
    rw [updF_same g0, updF_same g1, updF_same g2, updF_same g3, updF_same g8, updF_same g68, updF_same g69] at hr
    exact round_le (H := (F56.H7 call lf ro (F56.L7 call lf ro n))) (J := (F56.U7 call lf ro (F56.L7 call lf ro n))) ⟨(hd_free rfl), ⟨(hd_free rfl), (fun e h hs => F56.BJ8 call lf ro (F56.L7 call lf ro n) e h hs)⟩⟩ hr

theorem F56.RJ5 (call : CT) (lf ro : Nat) (f : Nat → Option Value) (p54 : Nat) (o54 : Nat) (p55 : Nat) (o55 : Nat) (n56 : Int) (n57 : Int) (n58 : Int) (h59 : Heap) :
    execH Tryd.prog call ro (F56.Ht call lf ro) (F56.Ut call lf ro) (sub (codeOf Tryd.f56) [true, true, true, true]) (EF 158 (updF (updF (updF (updF (updF f 0 (some (.pointer (some ⟨p54, o54, none⟩)))) 1 (some (.pointer (some ⟨p55, o55, none⟩)))) 2 (some (.int .i64 n56))) 3 (some (.int .i64 n57))) 8 (some (.int .i64 n58)))) h59 (F56.CJ5 call lf ro) = F56.J5 call lf ro p54 o54 p55 o55 n56 n57 n58 h59 := by kernel_rfl

theorem F56.CKJ5 (call : CT) (lf ro : Nat) : KLe 158 (F56.CJ5 call lf ro) (F56.KJ5 call lf ro) :=
  (KLe.refl _)

theorem F56.BJ5 (call : CT) (lf ro : Nat) : ∀ e h, Shaped 158 e → LeO (F56.PJ5 (F56.J5 call lf ro) e h) (execK Tryd.prog call lf ro (sub (codeOf Tryd.f56) [true, true, true, true]) e h (F56.KJ5 call lf ro)) := by
    rintro e h ⟨f, rfl⟩
    unfold F56.PJ5
    refine getK_le fun w0 g0 => ?_
    rw [EF_get (by decide)] at g0
    refine ptrK_le fun p764 o764 z797 => ?_
    subst z797
    refine getK_le fun w1 g1 => ?_
    rw [EF_get (by decide)] at g1
    refine ptrK_le fun p765 o765 z798 => ?_
    subst z798
    refine getK_le fun w2 g2 => ?_
    rw [EF_get (by decide)] at g2
    refine intK_le fun n766 z799 => ?_
    subst z799
    refine getK_le fun w3 g3 => ?_
    rw [EF_get (by decide)] at g3
    refine intK_le fun n767 z800 => ?_
    subst z800
    refine getK_le fun w8 g8 => ?_
    rw [EF_get (by decide)] at g8
    refine intK_le fun n768 z801 => ?_
    subst z801
    have hr := F56.RJ5 call lf ro f p764 o764 p765 o765 n766 n767 n768 h
    rw [updF_same g0, updF_same g1, updF_same g2, updF_same g3, updF_same g8] at hr
    exact cut_le (H := (F56.Ht call lf ro)) (J := (F56.Ut call lf ro)) (F56.CKJ5 call lf ro) ⟨(hd_free rfl), ⟨⟨(hd_free rfl), (fun e h hs => F56.B7 call lf ro  lf e h hs)⟩, (hd_free rfl)⟩⟩ hr

theorem F56.le (call : CT) (lf ro : Nat) (px0 : Nat) (ox0 : Nat) (px1 : Nat) (ox1 : Nat) (x2 : Int) (x3 : Int) (h : Heap) : LeO (F56.t call lf ro px0 ox0 px1 ox1 x2 x3 h) (bodyK Tryd.prog call lf ro Tryd.f56 [.pointer (some ⟨px0, ox0, none⟩), .pointer (some ⟨px1, ox1, none⟩), .int .i64 x2, .int .i64 x3] h) :=
  body_le (c := codeOf Tryd.f56) (H := F56.Ht call lf ro) (J := F56.Ut call lf ro) rfl (Nat.le_of_ble_eq_true rfl) ⟨(hd_free rfl), ⟨(hd_free rfl), ⟨(hd_free rfl), ⟨(hd_free rfl), (fun e h hs => F56.BJ5 call lf ro  e h hs)⟩⟩⟩⟩ (by kernel_rfl)

/-! ### (*barscan/netpbm.parser).number: function 65 -/

noncomputable def F65.L7 (call : CT) (lf ro : Nat) : Nat → Nat → Nat → Int → Heap → Out
  | 0, _, _, _, _ => .fail
  | n + 1, p96, o96, n97, h98 =>
  letJ (fun (h169 : Heap) =>
  (Out.ok (.int .i64 n97) h169)) fun j170 =>
  letJ (fun (b191 : Bool) (h192 : Heap) =>
  (ifK b191 (bindN (loadO Tryd.prog 22 (.pointer (some ⟨p96, o96 + 0, none⟩)) h192) fun v205 h206 =>
  sliceK v205 fun a207 l207 c207 =>
  bindN (loadO Tryd.prog 3 (.pointer (some ⟨p96, o96 + 1, none⟩)) h206) fun v208 h209 =>
  intK .i64 v208 fun n210 =>
  bindN (idxO Tryd.prog 22 (.slice a207 l207 c207) (.int .i64 n210) h209) fun v211 h212 =>
  bindN (loadO Tryd.prog 5 v211 h212) fun v213 h214 =>
  intK .u8 v213 fun n215 =>
  bindO (loadO Tryd.prog 3 (.pointer (some ⟨p96, o96 + 1, none⟩)) h214) fun v216 h217 =>
  intK .i64 v216 fun n218 =>
  bindO (storeO Tryd.prog ro 3 (.pointer (some ⟨p96, o96 + 1, none⟩)) (.int .i64 (IntKind.i64.wrap (n218 + 1))) h217) fun v219 h220 =>
  F65.L7 call lf ro n p96 o96 (if 65536 < IntKind.i64.wrap ((IntKind.i64.wrap (10 * n97)) + (IntKind.i64.wrap (IntKind.u8.wrap (n215 - 48)))) then 65536 else IntKind.i64.wrap ((IntKind.i64.wrap (10 * n97)) + (IntKind.i64.wrap (IntKind.u8.wrap (n215 - 48))))) h220) (j170 h192))) fun j193 =>
  bindN (loadO Tryd.prog 3 (.pointer (some ⟨p96, o96 + 1, none⟩)) h98) fun v221 h222 =>
  intK .i64 v221 fun n223 =>
  bindN (loadO Tryd.prog 22 (.pointer (some ⟨p96, o96 + 0, none⟩)) h222) fun v224 h225 =>
  sliceK v224 fun a226 l226 c226 =>
  ifK (decide (n223 < (l226 : Int))) (bindN (loadO Tryd.prog 22 (.pointer (some ⟨p96, o96 + 0, none⟩)) h225) fun v227 h228 =>
  sliceK v227 fun a229 l229 c229 =>
  bindN (loadO Tryd.prog 3 (.pointer (some ⟨p96, o96 + 1, none⟩)) h228) fun v230 h231 =>
  intK .i64 v230 fun n232 =>
  bindO (idxO Tryd.prog 22 (.slice a229 l229 c229) (.int .i64 n232) h231) fun v233 h234 =>
  bindO (loadO Tryd.prog 5 v233 h234) fun v235 h236 =>
  intK .u8 v235 fun n237 =>
  bindO (call ro 51 [.int .u8 n237] h236) fun v238 h239 =>
  boolK v238 fun b240 =>
  j193 b240 h239) (j193 false h225)

noncomputable def F65.P7 (kb : Nat → Nat → Int → Heap → Out) (e : Env) (h : Heap) : Out :=
  getK (e.get 0) fun w0 =>
  ptrK w0 fun p241 o241 =>
  getK (e.get 3) fun w3 =>
  intK .i64 w3 fun n242 =>
  kb p241 o241 n242 h

noncomputable def F65.J3 (call : CT) (lf ro : Nat) (p36 : Nat) (o36 : Nat) (h37 : Heap) : Out :=
  bindO (call ro 67 [.pointer (some ⟨p36, o36, none⟩)] h37) fun v41 h42 =>
  tupK v41 fun q43 =>
  nilK q43 <|
  bindN (loadO Tryd.prog 3 (.pointer (some ⟨p36, o36 + 1, none⟩)) h42) fun v53 h54 =>
  intK .i64 v53 fun n55 =>
  bindN (loadO Tryd.prog 22 (.pointer (some ⟨p36, o36 + 0, none⟩)) h54) fun v56 h57 =>
  sliceK v56 fun a58 l58 c58 =>
  bindO (call ro 52 [.pointer (some ⟨p36, o36, none⟩), .bool (decide (n55 < (l58 : Int))), .int .i64 10] h57) fun v59 h60 =>
  tupK v59 fun q61 =>
  nilK q61 <|
  bindN (loadO Tryd.prog 22 (.pointer (some ⟨p36, o36 + 0, none⟩)) h60) fun v79 h80 =>
  sliceK v79 fun a81 l81 c81 =>
  bindN (loadO Tryd.prog 3 (.pointer (some ⟨p36, o36 + 1, none⟩)) h80) fun v82 h83 =>
  intK .i64 v82 fun n84 =>
  bindN (idxO Tryd.prog 22 (.slice a81 l81 c81) (.int .i64 n84) h83) fun v85 h86 =>
  bindN (loadO Tryd.prog 5 v85 h86) fun v87 h88 =>
  intK .u8 v87 fun n89 =>
  bindN (call ro 51 [.int .u8 n89] h88) fun v90 h91 =>
  boolK v90 fun b92 =>
  bindO (call ro 52 [.pointer (some ⟨p36, o36, none⟩), .bool b92, .int .i64 9] h91) fun v93 h94 =>
  tupK v93 fun q95 =>
  nilK q95 <|
  F65.L7 call lf ro lf p36 o36 0 h94

noncomputable def F65.PJ3 (kb : Nat → Nat → Heap → Out) (e : Env) (h : Heap) : Out :=
  getK (e.get 0) fun w0 =>
  ptrK w0 fun p243 o243 =>
  kb p243 o243 h

noncomputable def F65.t (call : CT) (lf ro : Nat) (px0 : Nat) (ox0 : Nat) (h : Heap) : Out :=
  bindN (loadO Tryd.prog 3 (.pointer (some ⟨px0, ox0 + 1, none⟩)) h) fun v10 h11 =>
  intK .i64 v10 fun n12 =>
  bindN (loadO Tryd.prog 22 (.pointer (some ⟨px0, ox0 + 0, none⟩)) h11) fun v13 h14 =>
  sliceK v13 fun a15 l15 c15 =>
  bindO (call ro 52 [.pointer (some ⟨px0, ox0, none⟩), .bool (decide (n12 < (l15 : Int))), .int .i64 10] h14) fun v16 h17 =>
  tupK v16 fun q18 =>
  nilK q18 <|
  bindN (loadO Tryd.prog 22 (.pointer (some ⟨px0, ox0 + 0, none⟩)) h17) fun v19 h20 =>
  sliceK v19 fun a21 l21 c21 =>
  bindN (loadO Tryd.prog 3 (.pointer (some ⟨px0, ox0 + 1, none⟩)) h20) fun v22 h23 =>
  intK .i64 v22 fun n24 =>
  bindN (idxO Tryd.prog 22 (.slice a21 l21 c21) (.int .i64 n24) h23) fun v25 h26 =>
  bindN (loadO Tryd.prog 5 v25 h26) fun v27 h28 =>
  intK .u8 v27 fun n29 =>
  bindN (call ro 36 [.int .u8 n29] h28) fun v30 h31 =>
  boolK v30 fun b32 =>
  ifK b32 (bindO (call ro 52 [.pointer (some ⟨px0, ox0, none⟩), .bool true, .int .i64 9] h31) fun v33 h34 =>
  tupK v33 fun q35 =>
  nilK q35 <|
  F65.J3 call lf ro px0 ox0 h34) (bindN (loadO Tryd.prog 22 (.pointer (some ⟨px0, ox0 + 0, none⟩)) h31) fun v244 h245 =>
  sliceK v244 fun a246 l246 c246 =>
  bindN (loadO Tryd.prog 3 (.pointer (some ⟨px0, ox0 + 1, none⟩)) h245) fun v247 h248 =>
  intK .i64 v247 fun n249 =>
  bindN (idxO Tryd.prog 22 (.slice a246 l246 c246) (.int .i64 n249) h248) fun v250 h251 =>
  bindN (loadO Tryd.prog 5 v250 h251) fun v252 h253 =>
  intK .u8 v252 fun n254 =>
  bindO (call ro 52 [.pointer (some ⟨px0, ox0, none⟩), .bool (n254 == 35), .int .i64 9] h253) fun v255 h256 =>
  tupK v255 fun q257 =>
  nilK q257 <|
  F65.J3 call lf ro px0 ox0 h256)

noncomputable def F65.Ht (call : CT) (lf ro : Nat) (i : Nat) (e : Env) (h : Heap) : Out := ifK (i == 7) (F65.P7 (F65.L7 call lf ro lf) e h) (.fail)
noncomputable def F65.Ut (call : CT) (lf ro : Nat) (i : Nat) : Option (Env → Heap → Out) := ifJ (i == 3) (some (F65.PJ3 (F65.J3 call lf ro))) (none)

noncomputable def F65.H7 (call : CT) (lf ro : Nat) (kb7 : Nat → Nat → Int → Heap → Out) (i : Nat) (e : Env) (h : Heap) : Out := ifK (i == 7) (F65.P7 (F65.L7 call lf ro lf) e h) (.fail)
noncomputable def F65.U7 (call : CT) (lf ro : Nat) (kb7 : Nat → Nat → Int → Heap → Out) (i : Nat) : Option (Env → Heap → Out) := ifJ (i == 3) (some (F65.PJ3 (F65.J3 call lf ro))) (none)

noncomputable def F65.C7 (call : CT) (lf ro : Nat) : COut → Out := blockK 0 (seqH Tryd.prog call ro (F65.Ht call lf ro) (F65.Ut call lf ro) (sub (codeOf Tryd.f65) [true, true, true, true, true, true, true, true]) (endK Tryd.prog Tryd.f65))

noncomputable def F65.K7 (call : CT) (lf ro : Nat) : COut → Out := blockK 0 (seqK Tryd.prog call lf ro (sub (codeOf Tryd.f65) [true, true, true, true, true, true, true, true]) (endK Tryd.prog Tryd.f65))

noncomputable def F65.CJ3 (call : CT) (lf ro : Nat) : COut → Out := endK Tryd.prog Tryd.f65

noncomputable def F65.KJ3 (call : CT) (lf ro : Nat) : COut → Out := endK Tryd.prog Tryd.f65

theorem F65.R7 (call : CT) (lf ro : Nat) (n : Nat) (f : Nat → Option Value) (p96 : Nat) (o96 : Nat) (n97 : Int) (h98 : Heap) :
    execH Tryd.prog call ro (F65.H7 call lf ro (F65.L7 call lf ro n)) (F65.U7 call lf ro (F65.L7 call lf ro n)) (sub (codeOf Tryd.f65) [true, true, true, true, true, true, true, false, false, false]) (EF 116 (updF (updF f 0 (some (.pointer (some ⟨p96, o96, none⟩)))) 3 (some (.int .i64 n97)))) h98 (outK (F65.P7 (F65.L7 call lf ro n)) (fun i e h => F65.C7 call lf ro (.exit i e h)) (fun e h => F65.C7 call lf ro (.ret e h))) = F65.L7 call lf ro (n + 1) p96 o96 n97 h98 := by kernel_rfl

theorem F65.CK7 (call : CT) (lf ro : Nat) : KLe 116 (F65.C7 call lf ro) (F65.K7 call lf ro) :=
  (KLe.block (KLe.seq (H := (F65.Ht call lf ro)) (J := (F65.Ut call lf ro)) (KLe.refl _) (hd_free rfl)))

theorem F65.B7 (call : CT) (lf ro : Nat) : ∀ n e h, Shaped 116 e → LeO (F65.P7 (F65.L7 call lf ro n) e h) (loopK (execK Tryd.prog call lf ro (sub (codeOf Tryd.f65) [true, true, true, true, true, true, true, false, false, false])) n e h (F65.K7 call lf ro)) := by
  refine loop_le (fun e h k k' hs hk => execK_mono _ e h k k' hs hk) (kb := fun n => F65.P7 (F65.L7 call lf ro n)) (kx := fun i e h => F65.C7 call lf ro (.exit i e h)) (kr := fun e h => F65.C7 call lf ro (.ret e h)) ?_ ?_ (fun i e h hs => (F65.CK7 call lf ro).exit i e h hs) (fun e h hs => (F65.CK7 call lf ro).ret e h hs)
  · rintro e h ⟨f, rfl⟩
    unfold F65.P7
    refine getK_le fun w0 g0 => ?_
    rw [EF_get (by decide)] at g0
    refine ptrK_le fun p241 o241 z258 => ?_
    subst z258
    refine getK_le fun w3 g3 => ?_
    rw [EF_get (by decide)] at g3
    refine intK_le fun n242 z259 => ?_
    subst z259
    exact LeO.refl _
  · rintro n e h ⟨f, rfl⟩
    unfold F65.P7
    refine getK_le fun w0 g0 => ?_
    rw [EF_get (by decide)] at g0
    refine ptrK_le fun p241 o241 z260 => ?_
    subst z260
    refine getK_le fun w3 g3 => ?_
    rw [EF_get (by decide)] at g3
    refine intK_le fun n242 z261 => ?_
    subst z261
    have hr := F65.R7 call lf ro n f p241 o241 n242 h
    rw [updF_same g0, updF_same g3] at hr
    exact round_le (H := (F65.H7 call lf ro (F65.L7 call lf ro n))) (J := (F65.U7 call lf ro (F65.L7 call lf ro n))) (hd_free rfl) hr

theorem F65.RJ3 (call : CT) (lf ro : Nat) (f : Nat → Option Value) (p36 : Nat) (o36 : Nat) (h37 : Heap) :
    execH Tryd.prog call ro (F65.Ht call lf ro) (F65.Ut call lf ro) (sub (codeOf Tryd.f65) [true, true, true]) (EF 116 (updF f 0 (some (.pointer (some ⟨p36, o36, none⟩))))) h37 (F65.CJ3 call lf ro) = F65.J3 call lf ro p36 o36 h37 := by kernel_rfl

theorem F65.CKJ3 (call : CT) (lf ro : Nat) : KLe 116 (F65.CJ3 call lf ro) (F65.KJ3 call lf ro) :=
  (KLe.refl _)

theorem F65.BJ3 (call : CT) (lf ro : Nat) : ∀ e h, Shaped 116 e → LeO (F65.PJ3 (F65.J3 call lf ro) e h) (execK Tryd.prog call lf ro (sub (codeOf Tryd.f65) [true, true, true]) e h (F65.KJ3 call lf ro)) := by
    rintro e h ⟨f, rfl⟩
    unfold F65.PJ3
    refine getK_le fun w0 g0 => ?_
    rw [EF_get (by decide)] at g0
    refine ptrK_le fun p243 o243 z262 => ?_
    subst z262
    have hr := F65.RJ3 call lf ro f p243 o243 h
    rw [updF_same g0] at hr
    exact cut_le (H := (F65.Ht call lf ro)) (J := (F65.Ut call lf ro)) (F65.CKJ3 call lf ro) ⟨(hd_free rfl), ⟨(hd_free rfl), ⟨(hd_free rfl), ⟨(hd_free rfl), ⟨(fun e h hs => F65.B7 call lf ro  lf e h hs), (hd_free rfl)⟩⟩⟩⟩⟩ hr

theorem F65.le (call : CT) (lf ro : Nat) (px0 : Nat) (ox0 : Nat) (h : Heap) : LeO (F65.t call lf ro px0 ox0 h) (bodyK Tryd.prog call lf ro Tryd.f65 [.pointer (some ⟨px0, ox0, none⟩)] h) :=
  body_le (c := codeOf Tryd.f65) (H := F65.Ht call lf ro) (J := F65.Ut call lf ro) rfl (Nat.le_of_ble_eq_true rfl) ⟨(hd_free rfl), ⟨(hd_free rfl), ⟨(hd_free rfl), (fun e h hs => F65.BJ3 call lf ro  e h hs)⟩⟩⟩ (by kernel_rfl)

/-! ### barscan/netpbm.scaled: function 66 -/

noncomputable def F66.t (call : CT) (lf ro : Nat) (x0 : Int) (x1 : Int) (h : Heap) : Out :=
  bindO (binO Tryd.prog .quo 3 false (.int .i64 (IntKind.i64.wrap ((IntKind.i64.wrap (255 * x0)) + (IntKind.i64.wrap (Int.tdiv x1 2))))) (.int .i64 x1) h) fun v4 h5 =>
  intK .i64 v4 fun n6 =>
  Out.ok (.int .u8 (IntKind.u8.wrap n6)) h5

noncomputable def F66.Ht (call : CT) (lf ro : Nat) (i : Nat) (e : Env) (h : Heap) : Out := .fail
noncomputable def F66.Ut (call : CT) (lf ro : Nat) (i : Nat) : Option (Env → Heap → Out) := none

theorem F66.le (call : CT) (lf ro : Nat) (x0 : Int) (x1 : Int) (h : Heap) : LeO (F66.t call lf ro x0 x1 h) (bodyK Tryd.prog call lf ro Tryd.f66 [.int .i64 x0, .int .i64 x1] h) :=
  body_le (c := codeOf Tryd.f66) (H := F66.Ht call lf ro) (J := F66.Ut call lf ro) rfl (Nat.le_of_ble_eq_true rfl) (hd_free rfl) (by kernel_rfl)

/-! ### (*barscan/netpbm.parser).skip: function 67 -/

noncomputable def F67.L5 (call : CT) (lf ro : Nat) (kb0 : Nat → Nat → Heap → Out) : Nat → Nat → Nat → Heap → Out
  | 0, _, _, _ => .fail
  | n + 1, p50, o50, h51 =>
  letJ (fun (b80 : Bool) (h81 : Heap) =>
  (ifK b80 (bindO (loadO Tryd.prog 3 (.pointer (some ⟨p50, o50 + 1, none⟩)) h81) fun v83 h84 =>
  intK .i64 v83 fun n85 =>
  bindO (storeO Tryd.prog ro 3 (.pointer (some ⟨p50, o50 + 1, none⟩)) (.int .i64 (IntKind.i64.wrap (n85 + 1))) h84) fun v86 h87 =>
  F67.L5 call lf ro kb0 n p50 o50 h87) (kb0 p50 o50 h81))) fun j82 =>
  bindN (loadO Tryd.prog 3 (.pointer (some ⟨p50, o50 + 1, none⟩)) h51) fun v88 h89 =>
  intK .i64 v88 fun n90 =>
  bindN (loadO Tryd.prog 22 (.pointer (some ⟨p50, o50 + 0, none⟩)) h89) fun v91 h92 =>
  sliceK v91 fun a93 l93 c93 =>
  ifK (decide (n90 < (l93 : Int))) (bindN (loadO Tryd.prog 22 (.pointer (some ⟨p50, o50 + 0, none⟩)) h92) fun v94 h95 =>
  sliceK v94 fun a96 l96 c96 =>
  bindN (loadO Tryd.prog 3 (.pointer (some ⟨p50, o50 + 1, none⟩)) h95) fun v97 h98 =>
  intK .i64 v97 fun n99 =>
  bindN (idxO Tryd.prog 22 (.slice a96 l96 c96) (.int .i64 n99) h98) fun v100 h101 =>
  bindN (loadO Tryd.prog 5 v100 h101) fun v102 h103 =>
  intK .u8 v102 fun n104 =>
  ifK (n104 != 10) (bindN (loadO Tryd.prog 22 (.pointer (some ⟨p50, o50 + 0, none⟩)) h103) fun v105 h106 =>
  sliceK v105 fun a107 l107 c107 =>
  bindN (loadO Tryd.prog 3 (.pointer (some ⟨p50, o50 + 1, none⟩)) h106) fun v108 h109 =>
  intK .i64 v108 fun n110 =>
  bindO (idxO Tryd.prog 22 (.slice a107 l107 c107) (.int .i64 n110) h109) fun v111 h112 =>
  bindO (loadO Tryd.prog 5 v111 h112) fun v113 h114 =>
  intK .u8 v113 fun n115 =>
  j82 (n115 != 13) h114) (j82 false h103)) (j82 false h92)

noncomputable def F67.P5 (kb : Nat → Nat → Heap → Out) (e : Env) (h : Heap) : Out :=
  getK (e.get 0) fun w0 =>
  ptrK w0 fun p116 o116 =>
  kb p116 o116 h

noncomputable def F67.J1 (call : CT) (lf ro : Nat) (kb0 : Nat → Nat → Heap → Out) (p15 : Nat) (o15 : Nat) (h16 : Heap) : Out :=
  bindN (loadO Tryd.prog 22 (.pointer (some ⟨p15, o15 + 0, none⟩)) h16) fun v28 h29 =>
  sliceK v28 fun a30 l30 c30 =>
  bindN (loadO Tryd.prog 3 (.pointer (some ⟨p15, o15 + 1, none⟩)) h29) fun v31 h32 =>
  intK .i64 v31 fun n33 =>
  bindO (idxO Tryd.prog 22 (.slice a30 l30 c30) (.int .i64 n33) h32) fun v34 h35 =>
  bindO (loadO Tryd.prog 5 v34 h35) fun v36 h37 =>
  intK .u8 v36 fun n38 =>
  bindO (call ro 36 [.int .u8 n38] h37) fun v42 h43 =>
  boolK v42 fun b44 =>
  ifK b44 (bindO (loadO Tryd.prog 3 (.pointer (some ⟨p15, o15 + 1, none⟩)) h43) fun v45 h46 =>
  intK .i64 v45 fun n47 =>
  bindO (storeO Tryd.prog ro 3 (.pointer (some ⟨p15, o15 + 1, none⟩)) (.int .i64 (IntKind.i64.wrap (n47 + 1))) h46) fun v48 h49 =>
  kb0 p15 o15 h49) (ifK (n38 == 35) (F67.L5 call lf ro kb0 lf p15 o15 h43) (Out.ok (.tuple #[]) h43))

noncomputable def F67.PJ1 (kb : Nat → Nat → Heap → Out) (e : Env) (h : Heap) : Out :=
  getK (e.get 0) fun w0 =>
  ptrK w0 fun p117 o117 =>
  kb p117 o117 h

noncomputable def F67.L0 (call : CT) (lf ro : Nat) : Nat → Nat → Nat → Heap → Out
  | 0, _, _, _ => .fail
  | n + 1, p1, o1, h2 =>
  bindN (loadO Tryd.prog 3 (.pointer (some ⟨p1, o1 + 1, none⟩)) h2) fun v9 h10 =>
  intK .i64 v9 fun n11 =>
  bindN (loadO Tryd.prog 22 (.pointer (some ⟨p1, o1 + 0, none⟩)) h10) fun v12 h13 =>
  sliceK v12 fun a14 l14 c14 =>
  ifK (decide (n11 < (l14 : Int))) (F67.J1 call lf ro (F67.L0 call lf ro n) p1 o1 h13) (Out.ok (.tuple #[]) h13)

noncomputable def F67.P0 (kb : Nat → Nat → Heap → Out) (e : Env) (h : Heap) : Out :=
  getK (e.get 0) fun w0 =>
  ptrK w0 fun p118 o118 =>
  kb p118 o118 h

noncomputable def F67.t (call : CT) (lf ro : Nat) (px0 : Nat) (ox0 : Nat) (h : Heap) : Out :=
  F67.L0 call lf ro lf px0 ox0 h

noncomputable def F67.Ht (call : CT) (lf ro : Nat) (i : Nat) (e : Env) (h : Heap) : Out := ifK (i == 0) (F67.P0 (F67.L0 call lf ro lf) e h) (.fail)
noncomputable def F67.Ut (call : CT) (lf ro : Nat) (i : Nat) : Option (Env → Heap → Out) := none

noncomputable def F67.H5 (call : CT) (lf ro : Nat) (kb0 : Nat → Nat → Heap → Out) (kb5 : Nat → Nat → Heap → Out) (i : Nat) (e : Env) (h : Heap) : Out := ifK (i == 5) (F67.P5 (F67.L5 call lf ro kb0 lf) e h) (ifK (i == 0) (F67.P0 (F67.L0 call lf ro lf) e h) (.fail))
noncomputable def F67.U5 (call : CT) (lf ro : Nat) (kb0 : Nat → Nat → Heap → Out) (kb5 : Nat → Nat → Heap → Out) (i : Nat) : Option (Env → Heap → Out) := ifJ (i == 1) (some (F67.PJ1 (F67.J1 call lf ro kb0))) (none)

noncomputable def F67.H0 (call : CT) (lf ro : Nat) (kb0 : Nat → Nat → Heap → Out) (i : Nat) (e : Env) (h : Heap) : Out := ifK (i == 5) (F67.P5 (F67.L5 call lf ro kb0 lf) e h) (ifK (i == 0) (F67.P0 (F67.L0 call lf ro lf) e h) (.fail))
noncomputable def F67.U0 (call : CT) (lf ro : Nat) (kb0 : Nat → Nat → Heap → Out) (i : Nat) : Option (Env → Heap → Out) := ifJ (i == 1) (some (F67.PJ1 (F67.J1 call lf ro kb0))) (none)

noncomputable def F67.C0 (call : CT) (lf ro : Nat) : COut → Out := blockK 0 (endK Tryd.prog Tryd.f67)

noncomputable def F67.K0 (call : CT) (lf ro : Nat) : COut → Out := blockK 0 (endK Tryd.prog Tryd.f67)

noncomputable def F67.C5 (call : CT) (lf ro : Nat) (kb0 : Nat → Nat → Heap → Out) : COut → Out := blockK 3 (blockK 2 (blockK 1 (outK (F67.P0 kb0) (fun i e h => F67.C0 call lf ro (.exit i e h)) (fun e h => F67.C0 call lf ro (.ret e h)))))

noncomputable def F67.K5 (call : CT) (lf ro : Nat) (kb0 : Nat → Nat → Heap → Out) : COut → Out := blockK 3 (blockK 2 (blockK 1 (outK (F67.P0 kb0) (fun i e h => F67.C0 call lf ro (.exit i e h)) (fun e h => F67.C0 call lf ro (.ret e h)))))

noncomputable def F67.CJ1 (call : CT) (lf ro : Nat) (kb0 : Nat → Nat → Heap → Out) : COut → Out := outK (F67.P0 kb0) (fun i e h => F67.C0 call lf ro (.exit i e h)) (fun e h => F67.C0 call lf ro (.ret e h))

noncomputable def F67.KJ1 (call : CT) (lf ro : Nat) (kb0 : Nat → Nat → Heap → Out) : COut → Out := outK (F67.P0 kb0) (fun i e h => F67.C0 call lf ro (.exit i e h)) (fun e h => F67.C0 call lf ro (.ret e h))

theorem F67.R5 (call : CT) (lf ro : Nat) (kb0 : Nat → Nat → Heap → Out) (n : Nat) (f : Nat → Option Value) (p50 : Nat) (o50 : Nat) (h51 : Heap) :
    execH Tryd.prog call ro (F67.H5 call lf ro kb0 (F67.L5 call lf ro kb0 n)) (F67.U5 call lf ro kb0 (F67.L5 call lf ro kb0 n)) (sub (codeOf Tryd.f67) [false, false, true, false, true, false, true, true, true, false, false, false]) (EF 79 (updF f 0 (some (.pointer (some ⟨p50, o50, none⟩))))) h51 (outK (F67.P5 (F67.L5 call lf ro kb0 n)) (fun i e h => F67.C5 call lf ro kb0 (.exit i e h)) (fun e h => F67.C5 call lf ro kb0 (.ret e h))) = F67.L5 call lf ro kb0 (n + 1) p50 o50 h51 := by kernel_rfl

theorem F67.CK5 (call : CT) (lf ro : Nat) (kb0 : Nat → Nat → Heap → Out) : KLe 79 (F67.C5 call lf ro kb0) (F67.K5 call lf ro kb0) :=
  (KLe.block (KLe.block (KLe.block (KLe.refl _))))

theorem F67.B5 (call : CT) (lf ro : Nat) (kb0 : Nat → Nat → Heap → Out) : ∀ n e h, Shaped 79 e → LeO (F67.P5 (F67.L5 call lf ro kb0 n) e h) (loopK (execK Tryd.prog call lf ro (sub (codeOf Tryd.f67) [false, false, true, false, true, false, true, true, true, false, false, false])) n e h (F67.K5 call lf ro kb0)) := by
  refine loop_le (fun e h k k' hs hk => execK_mono _ e h k k' hs hk) (kb := fun n => F67.P5 (F67.L5 call lf ro kb0 n)) (kx := fun i e h => F67.C5 call lf ro kb0 (.exit i e h)) (kr := fun e h => F67.C5 call lf ro kb0 (.ret e h)) ?_ ?_ (fun i e h hs => (F67.CK5 call lf ro kb0).exit i e h hs) (fun e h hs => (F67.CK5 call lf ro kb0).ret e h hs)
  · rintro e h ⟨f, rfl⟩
    unfold F67.P5
    refine getK_le fun w0 g0 => ?_
    rw [EF_get (by decide)] at g0
    refine ptrK_le fun p116 o116 z119 => ?_
    subst z119
    exact LeO.refl _
  · rintro n e h ⟨f, rfl⟩
    unfold F67.P5
    refine getK_le fun w0 g0 => ?_
    rw [EF_get (by decide)] at g0
    refine ptrK_le fun p116 o116 z120 => ?_
    subst z120
    have hr := F67.R5 call lf ro kb0 n f p116 o116 h
    rw [updF_same g0] at hr
    exact round_le (H := (F67.H5 call lf ro kb0 (F67.L5 call lf ro kb0 n))) (J := (F67.U5 call lf ro kb0 (F67.L5 call lf ro kb0 n))) (hd_free rfl) hr

theorem F67.RJ1 (call : CT) (lf ro : Nat) (kb0 : Nat → Nat → Heap → Out) (f : Nat → Option Value) (p15 : Nat) (o15 : Nat) (h16 : Heap) :
    execH Tryd.prog call ro (F67.H0 call lf ro kb0) (F67.U0 call lf ro kb0) (sub (codeOf Tryd.f67) [false, false, true]) (EF 79 (updF f 0 (some (.pointer (some ⟨p15, o15, none⟩))))) h16 (F67.CJ1 call lf ro kb0) = F67.J1 call lf ro kb0 p15 o15 h16 := by kernel_rfl

theorem F67.CKJ1 (call : CT) (lf ro : Nat) (kb0 : Nat → Nat → Heap → Out) : KLe 79 (F67.CJ1 call lf ro kb0) (F67.KJ1 call lf ro kb0) :=
  (KLe.refl _)

theorem F67.BJ1 (call : CT) (lf ro : Nat) (kb0 : Nat → Nat → Heap → Out) : ∀ e h, Shaped 79 e → LeO (F67.PJ1 (F67.J1 call lf ro kb0) e h) (execK Tryd.prog call lf ro (sub (codeOf Tryd.f67) [false, false, true]) e h (F67.KJ1 call lf ro kb0)) := by
    rintro e h ⟨f, rfl⟩
    unfold F67.PJ1
    refine getK_le fun w0 g0 => ?_
    rw [EF_get (by decide)] at g0
    refine ptrK_le fun p117 o117 z121 => ?_
    subst z121
    have hr := F67.RJ1 call lf ro kb0 f p117 o117 h
    rw [updF_same g0] at hr
    exact cut_le (H := (F67.H0 call lf ro kb0)) (J := (F67.U0 call lf ro kb0)) (F67.CKJ1 call lf ro kb0) ⟨(hd_free rfl), ⟨(hd_free rfl), ⟨(hd_free rfl), ⟨(hd_free rfl), ⟨(fun e h hs => F67.B5 call lf ro kb0 lf e h hs), (hd_free rfl)⟩⟩⟩⟩⟩ hr

theorem F67.R0 (call : CT) (lf ro : Nat) (n : Nat) (f : Nat → Option Value) (p1 : Nat) (o1 : Nat) (h2 : Heap) :
    execH Tryd.prog call ro (F67.H0 call lf ro (F67.L0 call lf ro n)) (F67.U0 call lf ro (F67.L0 call lf ro n)) (sub (codeOf Tryd.f67) [false, false]) (EF 79 (updF f 0 (some (.pointer (some ⟨p1, o1, none⟩))))) h2 (outK (F67.P0 (F67.L0 call lf ro n)) (fun i e h => F67.C0 call lf ro (.exit i e h)) (fun e h => F67.C0 call lf ro (.ret e h))) = F67.L0 call lf ro (n + 1) p1 o1 h2 := by kernel_rfl

theorem F67.CK0 (call : CT) (lf ro : Nat) : KLe 79 (F67.C0 call lf ro) (F67.K0 call lf ro) :=
  (KLe.block (KLe.refl _))

theorem F67.B0 (call : CT) (lf ro : Nat) : ∀ n e h, Shaped 79 e → LeO (F67.P0 (F67.L0 call lf ro n) e h) (loopK (execK Tryd.prog call lf ro (sub (codeOf Tryd.f67) [false, false])) n e h (F67.K0 call lf ro)) := by
  refine loop_le (fun e h k k' hs hk => execK_mono _ e h k k' hs hk) (kb := fun n => F67.P0 (F67.L0 call lf ro n)) (kx := fun i e h => F67.C0 call lf ro (.exit i e h)) (kr := fun e h => F67.C0 call lf ro (.ret e h)) ?_ ?_ (fun i e h hs => (F67.CK0 call lf ro).exit i e h hs) (fun e h hs => (F67.CK0 call lf ro).ret e h hs)
  · rintro e h ⟨f, rfl⟩
    unfold F67.P0
    refine getK_le fun w0 g0 => ?_
    rw [EF_get (by decide)] at g0
    refine ptrK_le fun p118 o118 z123 => ?_
    subst z123
    exact LeO.refl _
  · rintro n e h ⟨f, rfl⟩
    unfold F67.P0
    refine getK_le fun w0 g0 => ?_
    rw [EF_get (by decide)] at g0
    refine ptrK_le fun p118 o118 z124 => ?_
    subst z124
    have hr := F67.R0 call lf ro n f p118 o118 h
    rw [updF_same g0] at hr
    exact round_le (H := (F67.H0 call lf ro (F67.L0 call lf ro n))) (J := (F67.U0 call lf ro (F67.L0 call lf ro n))) ⟨(hd_free rfl), (fun e h hs => F67.BJ1 call lf ro (F67.L0 call lf ro n) e h hs)⟩ hr

theorem F67.le (call : CT) (lf ro : Nat) (px0 : Nat) (ox0 : Nat) (h : Heap) : LeO (F67.t call lf ro px0 ox0 h) (bodyK Tryd.prog call lf ro Tryd.f67 [.pointer (some ⟨px0, ox0, none⟩)] h) :=
  body_le (c := codeOf Tryd.f67) (H := F67.Ht call lf ro) (J := F67.Ut call lf ro) rfl (Nat.le_of_ble_eq_true rfl) (fun e h hs => F67.B0 call lf ro  lf e h hs) (by kernel_rfl)

/-! ### barscan/netpbm.black: function 68 -/

noncomputable def F68.t (call : CT) (lf ro : Nat) (x0 : Bool) (h : Heap) : Out :=
  ifK x0 (Out.ok (.int .u8 0) h) (Out.ok (.int .u8 255) h)

noncomputable def F68.Ht (call : CT) (lf ro : Nat) (i : Nat) (e : Env) (h : Heap) : Out := .fail
noncomputable def F68.Ut (call : CT) (lf ro : Nat) (i : Nat) : Option (Env → Heap → Out) := none

theorem F68.le (call : CT) (lf ro : Nat) (x0 : Bool) (h : Heap) : LeO (F68.t call lf ro x0 h) (bodyK Tryd.prog call lf ro Tryd.f68 [.bool x0] h) :=
  body_le (c := codeOf Tryd.f68) (H := F68.Ht call lf ro) (J := F68.Ut call lf ro) rfl (Nat.le_of_ble_eq_true rfl) (hd_free rfl) (by kernel_rfl)

/-! ### (*barscan/netpbm.parser).image: function 44 -/

noncomputable def F44.J13 (call : CT) (lf ro : Nat) (p137 : Nat) (o137 : Nat) (p138 : Nat) (o138 : Nat) (n139 : Int) (p140 : Nat) (o140 : Nat) (n141 : Int) (h142 : Heap) : Out :=
  bindO (loadO Tryd.prog 3 (.pointer (some ⟨p140, o140 + 0, none⟩)) h142) fun v154 h155 =>
  intK .i64 v154 fun n156 =>
  bindO (loadO Tryd.prog 3 (.pointer (some ⟨p140, o140 + 1, none⟩)) h155) fun v157 h158 =>
  intK .i64 v157 fun n159 =>
  bindO (msliceO Tryd.prog 22 (.int .i64 (IntKind.i64.wrap (n156 * n159))) (.int .i64 (IntKind.i64.wrap (n156 * n159))) h158) fun v160 h161 =>
  sliceK v160 fun a162 l162 c162 =>
  bindO (storeO Tryd.prog ro 22 (.pointer (some ⟨p140, o140 + 2, none⟩)) (.slice a162 l162 c162) h161) fun v163 h164 =>
  bindO (call ro 54 [.int .i64 n139] h164) fun v168 h169 =>
  boolK v168 fun b170 =>
  letJ (fun (h177 : Heap) =>
  (bindO (loadO Tryd.prog 24 (.pointer (some ⟨p140, o140, none⟩)) h177) fun v193 h194 =>
  aggK v193 fun q195 =>
  consK q195 fun x196 q197 =>
  intK .i64 x196 fun n198 =>
  consK q197 fun x199 q200 =>
  intK .i64 x199 fun n201 =>
  consK q200 fun x202 q203 =>
  sliceK x202 fun a204 l204 c204 =>
  nilK q203 <|
  bindO (storeO Tryd.prog ro 24 (.pointer (some ⟨p138, o138, none⟩)) (.agg #[.int .i64 n198, .int .i64 n201, .slice a204 l204 c204]) h194) fun v205 h206 =>
  resOf Tryd.prog Tryd.f44 (EF 128 (updF (updF (fun _ => none) 2 (some (.pointer (some ⟨p138, o138, none⟩)))) 3 (some (.int .i64 n139)))) h206)) fun j178 =>
  ifK b170 (bindO (call ro 55 [.pointer (some ⟨p137, o137, none⟩), .pointer (some ⟨p140, o140, none⟩), .int .i64 n139, .int .i64 n141] h169) fun v207 h208 =>
  tupK v207 fun q209 =>
  nilK q209 <|
  j178 h208) (bindO (call ro 56 [.pointer (some ⟨p137, o137, none⟩), .pointer (some ⟨p140, o140, none⟩), .int .i64 n139, .int .i64 n141] h169) fun v210 h211 =>
  tupK v210 fun q212 =>
  nilK q212 <|
  j178 h211)

noncomputable def F44.PJ13 (kb : Nat → Nat → Nat → Nat → Int → Nat → Nat → Int → Heap → Out) (e : Env) (h : Heap) : Out :=
  getK (e.get 0) fun w0 =>
  ptrK w0 fun p213 o213 =>
  getK (e.get 2) fun w2 =>
  ptrK w2 fun p214 o214 =>
  getK (e.get 4) fun w4 =>
  intK .i64 w4 fun n215 =>
  getK (e.get 5) fun w5 =>
  ptrK w5 fun p216 o216 =>
  getK (e.get 6) fun w6 =>
  intK .i64 w6 fun n217 =>
  kb p213 o213 p214 o214 n215 p216 o216 n217 h

noncomputable def F44.J10 (call : CT) (lf ro : Nat) (p123 : Nat) (o123 : Nat) (p124 : Nat) (o124 : Nat) (n125 : Int) (p126 : Nat) (o126 : Nat) (h127 : Heap) : Out :=
  bindO (call ro 21 [.int .i64 n125] h127) fun v131 h132 =>
  boolK v131 fun b133 =>
  ifK (!b133) (bindO (call ro 53 [.pointer (some ⟨p123, o123, none⟩), .int .i64 1, .int .i64 255] h132) fun v134 h135 =>
  intK .i64 v134 fun n136 =>
  F44.J13 call lf ro p123 o123 p124 o124 n125 p126 o126 n136 h135) (F44.J13 call lf ro p123 o123 p124 o124 n125 p126 o126 1 h132)

noncomputable def F44.PJ10 (kb : Nat → Nat → Nat → Nat → Int → Nat → Nat → Heap → Out) (e : Env) (h : Heap) : Out :=
  getK (e.get 0) fun w0 =>
  ptrK w0 fun p218 o218 =>
  getK (e.get 2) fun w2 =>
  ptrK w2 fun p219 o219 =>
  getK (e.get 4) fun w4 =>
  intK .i64 w4 fun n220 =>
  getK (e.get 5) fun w5 =>
  ptrK w5 fun p221 o221 =>
  kb p218 o218 p219 o219 n220 p221 o221 h

noncomputable def F44.J4 (call : CT) (lf ro : Nat) (p50 : Nat) (o50 : Nat) (p51 : Nat) (o51 : Nat) (n52 : Int) (h53 : Heap) : Out :=
  bindO (call ro 20 [.int .i64 n52] h53) fun v60 h61 =>
  boolK v60 fun b62 =>
  bindO (call ro 52 [.pointer (some ⟨p50, o50, none⟩), .bool b62, .int .i64 25] h61) fun v63 h64 =>
  tupK v63 fun q65 =>
  nilK q65 <|
  bindO (loadO Tryd.prog 3 (.pointer (some ⟨p50, o50 + 1, none⟩)) h64) fun v71 h72 =>
  intK .i64 v71 fun n73 =>
  bindO (storeO Tryd.prog ro 3 (.pointer (some ⟨p50, o50 + 1, none⟩)) (.int .i64 (IntKind.i64.wrap (n73 + 2))) h72) fun v74 h75 =>
  pushJ h75 1 [.int .i64 0, .int .i64 0, .slice none 0 0] fun h79 =>
  bindO (storeO Tryd.prog ro 24 (.pointer (some ⟨h75.next, 0, none⟩)) (.agg #[.int .i64 0, .int .i64 0, .slice none 0 0]) h79) fun v80 h81 =>
  bindO (call ro 53 [.pointer (some ⟨p50, o50, none⟩), .int .i64 0, .int .i64 65535] h81) fun v87 h88 =>
  intK .i64 v87 fun n89 =>
  bindO (storeO Tryd.prog ro 3 (.pointer (some ⟨h75.next, 0, none⟩)) (.int .i64 n89) h88) fun v90 h91 =>
  bindO (call ro 53 [.pointer (some ⟨p50, o50, none⟩), .int .i64 0, .int .i64 65535] h91) fun v97 h98 =>
  intK .i64 v97 fun n99 =>
  bindO (storeO Tryd.prog ro 3 (.pointer (some ⟨h75.next, 1, none⟩)) (.int .i64 n99) h98) fun v100 h101 =>
  bindO (loadO Tryd.prog 3 (.pointer (some ⟨h75.next, 0, none⟩)) h101) fun v102 h103 =>
  intK .i64 v102 fun n104 =>
  ifK (decide (n104 ≥ 1)) (bindO (loadO Tryd.prog 3 (.pointer (some ⟨h75.next, 0, none⟩)) h103) fun v105 h106 =>
  intK .i64 v105 fun n107 =>
  ifK (decide (n107 ≤ 4096)) (bindO (loadO Tryd.prog 3 (.pointer (some ⟨h75.next, 1, none⟩)) h106) fun v108 h109 =>
  intK .i64 v108 fun n110 =>
  ifK (decide (n110 ≥ 1)) (bindO (loadO Tryd.prog 3 (.pointer (some ⟨h75.next, 1, none⟩)) h109) fun v111 h112 =>
  intK .i64 v111 fun n113 =>
  ifK (decide (n113 ≤ 4096)) (bindO (loadO Tryd.prog 3 (.pointer (some ⟨h75.next, 0, none⟩)) h112) fun v114 h115 =>
  intK .i64 v114 fun n116 =>
  bindO (loadO Tryd.prog 3 (.pointer (some ⟨h75.next, 1, none⟩)) h115) fun v117 h118 =>
  intK .i64 v117 fun n119 =>
  bindO (call ro 52 [.pointer (some ⟨p50, o50, none⟩), .bool (decide (IntKind.i64.wrap (n116 * n119) ≤ 4194304)), .int .i64 23] h118) fun v120 h121 =>
  tupK v120 fun q122 =>
  nilK q122 <|
  F44.J10 call lf ro p50 o50 p51 o51 n52 h75.next 0 h121) (bindO (call ro 52 [.pointer (some ⟨p50, o50, none⟩), .bool false, .int .i64 23] h112) fun v222 h223 =>
  tupK v222 fun q224 =>
  nilK q224 <|
  F44.J10 call lf ro p50 o50 p51 o51 n52 h75.next 0 h223)) (bindO (call ro 52 [.pointer (some ⟨p50, o50, none⟩), .bool false, .int .i64 23] h109) fun v225 h226 =>
  tupK v225 fun q227 =>
  nilK q227 <|
  F44.J10 call lf ro p50 o50 p51 o51 n52 h75.next 0 h226)) (bindO (call ro 52 [.pointer (some ⟨p50, o50, none⟩), .bool false, .int .i64 23] h106) fun v228 h229 =>
  tupK v228 fun q230 =>
  nilK q230 <|
  F44.J10 call lf ro p50 o50 p51 o51 n52 h75.next 0 h229)) (bindO (call ro 52 [.pointer (some ⟨p50, o50, none⟩), .bool false, .int .i64 23] h103) fun v231 h232 =>
  tupK v231 fun q233 =>
  nilK q233 <|
  F44.J10 call lf ro p50 o50 p51 o51 n52 h75.next 0 h232)

noncomputable def F44.PJ4 (kb : Nat → Nat → Nat → Nat → Int → Heap → Out) (e : Env) (h : Heap) : Out :=
  getK (e.get 0) fun w0 =>
  ptrK w0 fun p234 o234 =>
  getK (e.get 2) fun w2 =>
  ptrK w2 fun p235 o235 =>
  getK (e.get 4) fun w4 =>
  intK .i64 w4 fun n236 =>
  kb p234 o234 p235 o235 n236 h

noncomputable def F44.J3 (call : CT) (lf ro : Nat) (p34 : Nat) (o34 : Nat) (p35 : Nat) (o35 : Nat) (n36 : Int) (b37 : Bool) (h38 : Heap) : Out :=
  ifK b37 (bindN (loadO Tryd.prog 22 (.pointer (some ⟨p34, o34 + 0, none⟩)) h38) fun v39 h40 =>
  sliceK v39 fun a41 l41 c41 =>
  bindN (loadO Tryd.prog 3 (.pointer (some ⟨p34, o34 + 1, none⟩)) h40) fun v42 h43 =>
  intK .i64 v42 fun n44 =>
  bindO (idxO Tryd.prog 22 (.slice a41 l41 c41) (.int .i64 (IntKind.i64.wrap (n44 + 1))) h43) fun v45 h46 =>
  bindO (loadO Tryd.prog 5 v45 h46) fun v47 h48 =>
  intK .u8 v47 fun n49 =>
  F44.J4 call lf ro p34 o34 p35 o35 (IntKind.i64.wrap (IntKind.u8.wrap (n49 - 48))) h48) (F44.J4 call lf ro p34 o34 p35 o35 n36 h38)

noncomputable def F44.PJ3 (kb : Nat → Nat → Nat → Nat → Int → Bool → Heap → Out) (e : Env) (h : Heap) : Out :=
  getK (e.get 0) fun w0 =>
  ptrK w0 fun p237 o237 =>
  getK (e.get 2) fun w2 =>
  ptrK w2 fun p238 o238 =>
  getK (e.get 4) fun w4 =>
  intK .i64 w4 fun n239 =>
  getK (e.get 44) fun w44 =>
  boolK w44 fun b240 =>
  kb p237 o237 p238 o238 n239 b240 h

noncomputable def F44.t (call : CT) (lf ro : Nat) (px0 : Nat) (ox0 : Nat) (h : Heap) : Out :=
  pushJ h 1 [.int .i64 0, .int .i64 0, .slice none 0 0] fun h2 =>
  bindN (loadO Tryd.prog 22 (.pointer (some ⟨px0, ox0 + 0, none⟩)) h2) fun v3 h4 =>
  sliceK v3 fun a5 l5 c5 =>
  bindN (loadO Tryd.prog 3 (.pointer (some ⟨px0, ox0 + 1, none⟩)) h4) fun v6 h7 =>
  intK .i64 v6 fun n8 =>
  ifK (decide (IntKind.i64.wrap ((l5 : Int) - n8) ≥ 2)) (bindN (loadO Tryd.prog 22 (.pointer (some ⟨px0, ox0 + 0, none⟩)) h7) fun v9 h10 =>
  sliceK v9 fun a11 l11 c11 =>
  bindN (loadO Tryd.prog 3 (.pointer (some ⟨px0, ox0 + 1, none⟩)) h10) fun v12 h13 =>
  intK .i64 v12 fun n14 =>
  bindN (idxO Tryd.prog 22 (.slice a11 l11 c11) (.int .i64 n14) h13) fun v15 h16 =>
  bindN (loadO Tryd.prog 5 v15 h16) fun v17 h18 =>
  intK .u8 v17 fun n19 =>
  ifK (n19 == 80) (bindN (loadO Tryd.prog 22 (.pointer (some ⟨px0, ox0 + 0, none⟩)) h18) fun v20 h21 =>
  sliceK v20 fun a22 l22 c22 =>
  bindN (loadO Tryd.prog 3 (.pointer (some ⟨px0, ox0 + 1, none⟩)) h21) fun v23 h24 =>
  intK .i64 v23 fun n25 =>
  bindO (idxO Tryd.prog 22 (.slice a22 l22 c22) (.int .i64 (IntKind.i64.wrap (n25 + 1))) h24) fun v26 h27 =>
  bindO (loadO Tryd.prog 5 v26 h27) fun v28 h29 =>
  intK .u8 v28 fun n30 =>
  bindO (call ro 51 [.int .u8 n30] h29) fun v31 h32 =>
  boolK v31 fun b33 =>
  F44.J3 call lf ro px0 ox0 h.next 0 0 b33 h32) (F44.J3 call lf ro px0 ox0 h.next 0 0 false h18)) (F44.J3 call lf ro px0 ox0 h.next 0 0 false h7)

noncomputable def F44.Ht (call : CT) (lf ro : Nat) (i : Nat) (e : Env) (h : Heap) : Out := .fail
noncomputable def F44.Ut (call : CT) (lf ro : Nat) (i : Nat) : Option (Env → Heap → Out) := ifJ (i == 13) (some (F44.PJ13 (F44.J13 call lf ro))) (ifJ (i == 10) (some (F44.PJ10 (F44.J10 call lf ro))) (ifJ (i == 4) (some (F44.PJ4 (F44.J4 call lf ro))) (ifJ (i == 3) (some (F44.PJ3 (F44.J3 call lf ro))) (none))))

noncomputable def F44.CJ13 (call : CT) (lf ro : Nat) : COut → Out := endK Tryd.prog Tryd.f44

noncomputable def F44.KJ13 (call : CT) (lf ro : Nat) : COut → Out := endK Tryd.prog Tryd.f44

noncomputable def F44.CJ10 (call : CT) (lf ro : Nat) : COut → Out := endK Tryd.prog Tryd.f44

noncomputable def F44.KJ10 (call : CT) (lf ro : Nat) : COut → Out := endK Tryd.prog Tryd.f44

noncomputable def F44.CJ4 (call : CT) (lf ro : Nat) : COut → Out := endK Tryd.prog Tryd.f44

noncomputable def F44.KJ4 (call : CT) (lf ro : Nat) : COut → Out := endK Tryd.prog Tryd.f44

noncomputable def F44.CJ3 (call : CT) (lf ro : Nat) : COut → Out := seqH Tryd.prog call ro (F44.Ht call lf ro) (F44.Ut call lf ro) (sub (codeOf Tryd.f44) [true, true, true]) (endK Tryd.prog Tryd.f44)

noncomputable def F44.KJ3 (call : CT) (lf ro : Nat) : COut → Out := seqK Tryd.prog call lf ro (sub (codeOf Tryd.f44) [true, true, true]) (endK Tryd.prog Tryd.f44)

theorem F44.RJ13 (call : CT) (lf ro : Nat) (f : Nat → Option Value) (p137 : Nat) (o137 : Nat) (p138 : Nat) (o138 : Nat) (n139 : Int) (p140 : Nat) (o140 : Nat) (n141 : Int) (h142 : Heap) :
    execH Tryd.prog call ro (F44.Ht call lf ro) (F44.Ut call lf ro) (sub (codeOf Tryd.f44) [true, true, true, true, true, true, true, true, true, true, true]) (EF 128 (updF (updF (updF (updF (updF f 0 (some (.pointer (some ⟨p137, o137, none⟩)))) 2 (some (.pointer (some ⟨p138, o138, none⟩)))) 4 (some (.int .i64 n139))) 5 (some (.pointer (some ⟨p140, o140, none⟩)))) 6 (some (.int .i64 n141)))) h142 (F44.CJ13 call lf ro) = F44.J13 call lf ro p137 o137 p138 o138 n139 p140 o140 n141 h142 := by kernel_rfl

theorem F44.CKJ13 (call : CT) (lf ro : Nat) : KLe 128 (F44.CJ13 call lf ro) (F44.KJ13 call lf ro) :=
  (KLe.refl _)

theorem F44.BJ13 (call : CT) (lf ro : Nat) : ∀ e h, Shaped 128 e → LeO (F44.PJ13 (F44.J13 call lf ro) e h) (execK Tryd.prog call lf ro (sub (codeOf Tryd.f44) [true, true, true, true, true, true, true, true, true, true, true]) e h (F44.KJ13 call lf ro)) := by
    rintro e h ⟨f, rfl⟩
    unfold F44.PJ13
    refine getK_le fun w0 g0 => ?_
    rw [EF_get (by decide)] at g0
    refine ptrK_le fun p213 o213 z241 => ?_
    subst z241
    refine getK_le fun w2 g2 => ?_
    rw [EF_get (by decide)] at g2
    refine ptrK_le fun p214 o214 z242 => ?_
    subst z242
    refine getK_le fun w4 g4 => ?_
    rw [EF_get (by decide)] at g4
    refine intK_le fun n215 z243 => ?_
    subst z243
    refine getK_le fun w5 g5 => ?_
    rw [EF_get (by decide)] at g5
    refine ptrK_le fun p216 o216 z244 => ?_
    subst z244
    refine getK_le fun w6 g6 => ?_
    rw [EF_get (by decide)] at g6
    refine intK_le fun n217 z245 => ?_
    subst z245
    have hr := F44.RJ13 call lf ro f p213 o213 p214 o214 n215 p216 o216 n217 h
    rw [updF_same g0, updF_same g2, updF_same g4, updF_same g5, updF_same g6] at hr
    exact cut_le (H := (F44.Ht call lf ro)) (J := (F44.Ut call lf ro)) (F44.CKJ13 call lf ro) (hd_free rfl) hr

theorem F44.RJ10 (call : CT) (lf ro : Nat) (f : Nat → Option Value) (p123 : Nat) (o123 : Nat) (p124 : Nat) (o124 : Nat) (n125 : Int) (p126 : Nat) (o126 : Nat) (h127 : Heap) :
    execH Tryd.prog call ro (F44.Ht call lf ro) (F44.Ut call lf ro) (sub (codeOf Tryd.f44) [true, true, true, true, true, true, true, true, true]) (EF 128 (updF (updF (updF (updF f 0 (some (.pointer (some ⟨p123, o123, none⟩)))) 2 (some (.pointer (some ⟨p124, o124, none⟩)))) 4 (some (.int .i64 n125))) 5 (some (.pointer (some ⟨p126, o126, none⟩))))) h127 (F44.CJ10 call lf ro) = F44.J10 call lf ro p123 o123 p124 o124 n125 p126 o126 h127 := by kernel_rfl

theorem F44.CKJ10 (call : CT) (lf ro : Nat) : KLe 128 (F44.CJ10 call lf ro) (F44.KJ10 call lf ro) :=
  (KLe.refl _)

theorem F44.BJ10 (call : CT) (lf ro : Nat) : ∀ e h, Shaped 128 e → LeO (F44.PJ10 (F44.J10 call lf ro) e h) (execK Tryd.prog call lf ro (sub (codeOf Tryd.f44) [true, true, true, true, true, true, true, true, true]) e h (F44.KJ10 call lf ro)) := by
    rintro e h ⟨f, rfl⟩
    unfold F44.PJ10
    refine getK_le fun w0 g0 => ?_
    rw [EF_get (by decide)] at g0
    refine ptrK_le fun p218 o218 z251 => ?_
    subst z251
    refine getK_le fun w2 g2 => ?_
    rw [EF_get (by decide)] at g2
    refine ptrK_le fun p219 o219 z252 => ?_
    subst z252
    refine getK_le fun w4 g4 => ?_
    rw [EF_get (by decide)] at g4
    refine intK_le fun n220 z253 => ?_
    subst z253
    refine getK_le fun w5 g5 => ?_
    rw [EF_get (by decide)] at g5
    refine ptrK_le fun p221 o221 z254 => ?_
    subst z254
    have hr := F44.RJ10 call lf ro f p218 o218 p219 o219 n220 p221 o221 h
    rw [updF_same g0, updF_same g2, updF_same g4, updF_same g5] at hr
    exact cut_le (H := (F44.Ht call lf ro)) (J := (F44.Ut call lf ro)) (F44.CKJ10 call lf ro) ⟨(hd_free rfl), ⟨(hd_free rfl), (fun e h hs => F44.BJ13 call lf ro  e h hs)⟩⟩ hr

theorem F44.RJ4 (call : CT) (lf ro : Nat) (f : Nat → Option Value) (p50 : Nat) (o50 : Nat) (p51 : Nat) (o51 : Nat) (n52 : Int) (h53 : Heap) :
    execH Tryd.prog call ro (F44.Ht call lf ro) (F44.Ut call lf ro) (sub (codeOf Tryd.f44) [true, true, true]) (EF 128 (updF (updF (updF f 0 (some (.pointer (some ⟨p50, o50, none⟩)))) 2 (some (.pointer (some ⟨p51, o51, none⟩)))) 4 (some (.int .i64 n52)))) h53 (F44.CJ4 call lf ro) = F44.J4 call lf ro p50 o50 p51 o51 n52 h53 := by kernel_rfl

theorem F44.CKJ4 (call : CT) (lf ro : Nat) : KLe 128 (F44.CJ4 call lf ro) (F44.KJ4 call lf ro) :=
  (KLe.refl _)

theorem F44.BJ4 (call : CT) (lf ro : Nat) : ∀ e h, Shaped 128 e → LeO (F44.PJ4 (F44.J4 call lf ro) e h) (execK Tryd.prog call lf ro (sub (codeOf Tryd.f44) [true, true, true]) e h (F44.KJ4 call lf ro)) := by
    rintro e h ⟨f, rfl⟩
    unfold F44.PJ4
    refine getK_le fun w0 g0 => ?_
    rw [EF_get (by decide)] at g0
    refine ptrK_le fun p234 o234 z259 => ?_
    subst z259
    refine getK_le fun w2 g2 => ?_
    rw [EF_get (by decide)] at g2
    refine ptrK_le fun p235 o235 z260 => ?_
    subst z260
    refine getK_le fun w4 g4 => ?_
    rw [EF_get (by decide)] at g4
    refine intK_le fun n236 z261 => ?_
    subst z261
    have hr := F44.RJ4 call lf ro f p234 o234 p235 o235 n236 h
    rw [updF_same g0, updF_same g2, updF_same g4] at hr
    exact cut_le (H := (F44.Ht call lf ro)) (J := (F44.Ut call lf ro)) (F44.CKJ4 call lf ro) ⟨(hd_free rfl), ⟨(hd_free rfl), ⟨(hd_free rfl), ⟨(hd_free rfl), ⟨(hd_free rfl), ⟨(hd_free rfl), (fun e h hs => F44.BJ10 call lf ro  e h hs)⟩⟩⟩⟩⟩⟩ hr

theorem F44.RJ3 (call : CT) (lf ro : Nat) (f : Nat → Option Value) (p34 : Nat) (o34 : Nat) (p35 : Nat) (o35 : Nat) (n36 : Int) (b37 : Bool) (h38 : Heap) :
    execH Tryd.prog call ro (F44.Ht call lf ro) (F44.Ut call lf ro) (sub (codeOf Tryd.f44) [true, true, false, true]) (EF 128 (updF (updF (updF (updF f 0 (some (.pointer (some ⟨p34, o34, none⟩)))) 2 (some (.pointer (some ⟨p35, o35, none⟩)))) 4 (some (.int .i64 n36))) 44 (some (.bool b37)))) h38 (F44.CJ3 call lf ro) = F44.J3 call lf ro p34 o34 p35 o35 n36 b37 h38 := by kernel_rfl

theorem F44.CKJ3 (call : CT) (lf ro : Nat) : KLe 128 (F44.CJ3 call lf ro) (F44.KJ3 call lf ro) :=
  (KLe.seq (H := (F44.Ht call lf ro)) (J := (F44.Ut call lf ro)) (KLe.refl _) (fun e h hs => F44.BJ4 call lf ro  e h hs))

theorem F44.BJ3 (call : CT) (lf ro : Nat) : ∀ e h, Shaped 128 e → LeO (F44.PJ3 (F44.J3 call lf ro) e h) (execK Tryd.prog call lf ro (sub (codeOf Tryd.f44) [true, true, false, true]) e h (F44.KJ3 call lf ro)) := by
    rintro e h ⟨f, rfl⟩
    unfold F44.PJ3
    refine getK_le fun w0 g0 => ?_
    rw [EF_get (by decide)] at g0
    refine ptrK_le fun p237 o237 z265 => ?_
    subst z265
    refine getK_le fun w2 g2 => ?_
    rw [EF_get (by decide)] at g2
    refine ptrK_le fun p238 o238 z266 => ?_
    subst z266
    refine getK_le fun w4 g4 => ?_
    rw [EF_get (by decide)] at g4
    refine intK_le fun n239 z267 => ?_
    subst z267
    refine getK_le fun w44 g44 => ?_
    rw [EF_get (by decide)] at g44
    refine boolK_le fun b240 z268 => ?_
    subst z268
    have hr := F44.RJ3 call lf ro f p237 o237 p238 o238 n239 b240 h
    rw [updF_same g0, updF_same g2, updF_same g4, updF_same g44] at hr
    exact cut_le (H := (F44.Ht call lf ro)) (J := (F44.Ut call lf ro)) (F44.CKJ3 call lf ro) (hd_free rfl) hr

theorem F44.le (call : CT) (lf ro : Nat) (px0 : Nat) (ox0 : Nat) (h : Heap) : LeO (F44.t call lf ro px0 ox0 h) (bodyK Tryd.prog call lf ro Tryd.f44 [.pointer (some ⟨px0, ox0, none⟩)] h) :=
  body_le (c := codeOf Tryd.f44) (H := F44.Ht call lf ro) (J := F44.Ut call lf ro) rfl (Nat.le_of_ble_eq_true rfl) ⟨(hd_free rfl), ⟨(hd_free rfl), ⟨⟨(hd_free rfl), (fun e h hs => F44.BJ3 call lf ro  e h hs)⟩, (fun e h hs => F44.BJ4 call lf ro  e h hs)⟩⟩⟩ (by kernel_rfl)

/-! ### barscan/barscanlaw32.written: function 12 -/

noncomputable def F12.J6 (call : CT) (lf ro : Nat) (p7 : Nat) (o7 : Nat) (n8 : Int) (h9 : Heap) : Out :=
  bindO (loadO Tryd.prog 24 (.pointer (some ⟨p7, o7, none⟩)) h9) fun v31 h32 =>
  aggK v31 fun q33 =>
  consK q33 fun x34 q35 =>
  intK .i64 x34 fun n36 =>
  consK q35 fun x37 q38 =>
  intK .i64 x37 fun n39 =>
  consK q38 fun x40 q41 =>
  sliceK x40 fun a42 l42 c42 =>
  nilK q41 <|
  bindO (call ro 10 [.agg #[.int .i64 n36, .int .i64 n39, .slice a42 l42 c42], .int .i64 n8] h32) fun v43 h44 =>
  tupK v43 fun q45 =>
  consK q45 fun x46 q47 =>
  sliceK x46 fun a48 l48 c48 =>
  consK q47 fun x49 q50 =>
  intK .i64 x49 fun n51 =>
  nilK q50 <|
  letJ (fun (b55 : Bool) (h56 : Heap) =>
  (ifK b55 (Out.ok (.tuple #[.slice none 0 0, .int .i64 0]) h56) (Out.ok (.tuple #[.slice a48 l48 c48, .int .i64 n8]) h56))) fun j57 =>
  ifK (n51 != 0) (j57 true h44) (bindO (loadO Tryd.prog 22 (.pointer (some ⟨p7, o7 + 2, none⟩)) h44) fun v58 h59 =>
  sliceK v58 fun a60 l60 c60 =>
  j57 (decide ((l60 : Int) > 2000)) h59)

noncomputable def F12.PJ6 (kb : Nat → Nat → Int → Heap → Out) (e : Env) (h : Heap) : Out :=
  getK (e.get 2) fun w2 =>
  ptrK w2 fun p61 o61 =>
  getK (e.get 6) fun w6 =>
  intK .i64 w6 fun n62 =>
  kb p61 o61 n62 h

noncomputable def F12.J4 (call : CT) (lf ro : Nat) (n3 : Int) (p4 : Nat) (o4 : Nat) (n5 : Int) (h6 : Heap) : Out :=
  ifK (decide (Int.tmod n3 4 > 1)) (F12.J6 call lf ro p4 o4 (IntKind.i64.wrap (n5 + 3)) h6) (F12.J6 call lf ro p4 o4 n5 h6)

noncomputable def F12.PJ4 (kb : Int → Nat → Nat → Int → Heap → Out) (e : Env) (h : Heap) : Out :=
  getK (e.get 1) fun w1 =>
  intK .u8 w1 fun n63 =>
  getK (e.get 2) fun w2 =>
  ptrK w2 fun p64 o64 =>
  getK (e.get 6) fun w6 =>
  intK .i64 w6 fun n65 =>
  kb n63 p64 o64 n65 h

noncomputable def F12.t (call : CT) (lf ro : Nat) (x0_0 : Int) (x0_1 : Int) (ax0_2 : Option Addr) (lx0_2 : Nat) (cx0_2 : Nat) (x1 : Int) (h : Heap) : Out :=
  pushJ h 1 [.int .i64 x0_0, .int .i64 x0_1, .slice ax0_2 lx0_2 cx0_2] fun h2 =>
  ifK ((Int.tmod x1 2) == 1) (F12.J4 call lf ro x1 h.next 0 2 h2) (F12.J4 call lf ro x1 h.next 0 1 h2)

noncomputable def F12.Ht (call : CT) (lf ro : Nat) (i : Nat) (e : Env) (h : Heap) : Out := .fail
noncomputable def F12.Ut (call : CT) (lf ro : Nat) (i : Nat) : Option (Env → Heap → Out) := ifJ (i == 6) (some (F12.PJ6 (F12.J6 call lf ro))) (ifJ (i == 4) (some (F12.PJ4 (F12.J4 call lf ro))) (none))

noncomputable def F12.CJ6 (call : CT) (lf ro : Nat) : COut → Out := endK Tryd.prog Tryd.f12

noncomputable def F12.KJ6 (call : CT) (lf ro : Nat) : COut → Out := endK Tryd.prog Tryd.f12

noncomputable def F12.CJ4 (call : CT) (lf ro : Nat) : COut → Out := endK Tryd.prog Tryd.f12

noncomputable def F12.KJ4 (call : CT) (lf ro : Nat) : COut → Out := endK Tryd.prog Tryd.f12

theorem F12.RJ6 (call : CT) (lf ro : Nat) (f : Nat → Option Value) (p7 : Nat) (o7 : Nat) (n8 : Int) (h9 : Heap) :
    execH Tryd.prog call ro (F12.Ht call lf ro) (F12.Ut call lf ro) (sub (codeOf Tryd.f12) [true, true, true, true]) (EF 33 (updF (updF f 2 (some (.pointer (some ⟨p7, o7, none⟩)))) 6 (some (.int .i64 n8)))) h9 (F12.CJ6 call lf ro) = F12.J6 call lf ro p7 o7 n8 h9 := by kernel_rfl

theorem F12.CKJ6 (call : CT) (lf ro : Nat) : KLe 33 (F12.CJ6 call lf ro) (F12.KJ6 call lf ro) :=
  (KLe.refl _)

theorem F12.BJ6 (call : CT) (lf ro : Nat) : ∀ e h, Shaped 33 e → LeO (F12.PJ6 (F12.J6 call lf ro) e h) (execK Tryd.prog call lf ro (sub (codeOf Tryd.f12) [true, true, true, true]) e h (F12.KJ6 call lf ro)) := by
    rintro e h ⟨f, rfl⟩
    unfold F12.PJ6
    refine getK_le fun w2 g2 => ?_
    rw [EF_get (by decide)] at g2
    refine ptrK_le fun p61 o61 z66 => ?_
    subst z66
    refine getK_le fun w6 g6 => ?_
    rw [EF_get (by decide)] at g6
    refine intK_le fun n62 z67 => ?_
    subst z67
    have hr := F12.RJ6 call lf ro f p61 o61 n62 h
    rw [updF_same g2, updF_same g6] at hr
    exact cut_le (H := (F12.Ht call lf ro)) (J := (F12.Ut call lf ro)) (F12.CKJ6 call lf ro) (hd_free rfl) hr

theorem F12.RJ4 (call : CT) (lf ro : Nat) (f : Nat → Option Value) (n3 : Int) (p4 : Nat) (o4 : Nat) (n5 : Int) (h6 : Heap) :
    execH Tryd.prog call ro (F12.Ht call lf ro) (F12.Ut call lf ro) (sub (codeOf Tryd.f12) [true, true, true]) (EF 33 (updF (updF (updF f 1 (some (.int .u8 n3))) 2 (some (.pointer (some ⟨p4, o4, none⟩)))) 6 (some (.int .i64 n5)))) h6 (F12.CJ4 call lf ro) = F12.J4 call lf ro n3 p4 o4 n5 h6 := by kernel_rfl

theorem F12.CKJ4 (call : CT) (lf ro : Nat) : KLe 33 (F12.CJ4 call lf ro) (F12.KJ4 call lf ro) :=
  (KLe.refl _)

theorem F12.BJ4 (call : CT) (lf ro : Nat) : ∀ e h, Shaped 33 e → LeO (F12.PJ4 (F12.J4 call lf ro) e h) (execK Tryd.prog call lf ro (sub (codeOf Tryd.f12) [true, true, true]) e h (F12.KJ4 call lf ro)) := by
    rintro e h ⟨f, rfl⟩
    unfold F12.PJ4
    refine getK_le fun w1 g1 => ?_
    rw [EF_get (by decide)] at g1
    refine intK_le fun n63 z70 => ?_
    subst z70
    refine getK_le fun w2 g2 => ?_
    rw [EF_get (by decide)] at g2
    refine ptrK_le fun p64 o64 z71 => ?_
    subst z71
    refine getK_le fun w6 g6 => ?_
    rw [EF_get (by decide)] at g6
    refine intK_le fun n65 z72 => ?_
    subst z72
    have hr := F12.RJ4 call lf ro f n63 p64 o64 n65 h
    rw [updF_same g1, updF_same g2, updF_same g6] at hr
    exact cut_le (H := (F12.Ht call lf ro)) (J := (F12.Ut call lf ro)) (F12.CKJ4 call lf ro) ⟨(hd_free rfl), (fun e h hs => F12.BJ6 call lf ro  e h hs)⟩ hr

theorem F12.le (call : CT) (lf ro : Nat) (x0_0 : Int) (x0_1 : Int) (ax0_2 : Option Addr) (lx0_2 : Nat) (cx0_2 : Nat) (x1 : Int) (h : Heap) : LeO (F12.t call lf ro x0_0 x0_1 ax0_2 lx0_2 cx0_2 x1 h) (bodyK Tryd.prog call lf ro Tryd.f12 [.agg #[.int .i64 x0_0, .int .i64 x0_1, .slice ax0_2 lx0_2 cx0_2], .int .u8 x1] h) :=
  body_le (c := codeOf Tryd.f12) (H := F12.Ht call lf ro) (J := F12.Ut call lf ro) rfl (Nat.le_of_ble_eq_true rfl) ⟨(hd_free rfl), ⟨(hd_free rfl), ⟨(hd_free rfl), (fun e h hs => F12.BJ4 call lf ro  e h hs)⟩⟩⟩ (by kernel_rfl)

/-! ### barscan/barscanref32.Same: function 15 -/

noncomputable def F15.J6 (call : CT) (lf ro : Nat) (kb4 : Nat → Nat → Nat → Nat → Int → Heap → Out) (p39 : Nat) (o39 : Nat) (p40 : Nat) (o40 : Nat) (n41 : Int) (h42 : Heap) : Out :=
  bindN (loadO Tryd.prog 22 (.pointer (some ⟨p39, o39 + 2, none⟩)) h42) fun v155 h156 =>
  sliceK v155 fun a157 l157 c157 =>
  bindN (idxO Tryd.prog 22 (.slice a157 l157 c157) (.int .i64 n41) h156) fun v158 h159 =>
  bindN (loadO Tryd.prog 5 v158 h159) fun v160 h161 =>
  intK .u8 v160 fun n162 =>
  bindN (loadO Tryd.prog 22 (.pointer (some ⟨p40, o40 + 2, none⟩)) h161) fun v163 h164 =>
  sliceK v163 fun a165 l165 c165 =>
  bindN (idxO Tryd.prog 22 (.slice a165 l165 c165) (.int .i64 n41) h164) fun v166 h167 =>
  bindN (loadO Tryd.prog 5 v166 h167) fun v168 h169 =>
  intK .u8 v168 fun n170 =>
  ifK (n162 != n170) (Out.ok (.bool false) h169) (kb4 p39 o39 p40 o40 (IntKind.i64.wrap (n41 + 1)) h169)

noncomputable def F15.PJ6 (kb : Nat → Nat → Nat → Nat → Int → Heap → Out) (e : Env) (h : Heap) : Out :=
  getK (e.get 2) fun w2 =>
  ptrK w2 fun p171 o171 =>
  getK (e.get 3) fun w3 =>
  ptrK w3 fun p172 o172 =>
  getK (e.get 5) fun w5 =>
  intK .i64 w5 fun n173 =>
  kb p171 o171 p172 o172 n173 h

noncomputable def F15.L4 (call : CT) (lf ro : Nat) : Nat → Nat → Nat → Nat → Nat → Int → Heap → Out
  | 0, _, _, _, _, _, _ => .fail
  | n + 1, p29, o29, p30, o30, n31, h32 =>
  bindO (loadO Tryd.prog 22 (.pointer (some ⟨p29, o29 + 2, none⟩)) h32) fun v177 h178 =>
  sliceK v177 fun a179 l179 c179 =>
  ifK (decide (n31 < (l179 : Int))) (F15.J6 call lf ro (F15.L4 call lf ro n) p29 o29 p30 o30 n31 h178) (Out.ok (.bool true) h178)

noncomputable def F15.P4 (kb : Nat → Nat → Nat → Nat → Int → Heap → Out) (e : Env) (h : Heap) : Out :=
  getK (e.get 2) fun w2 =>
  ptrK w2 fun p180 o180 =>
  getK (e.get 3) fun w3 =>
  ptrK w3 fun p181 o181 =>
  getK (e.get 5) fun w5 =>
  intK .i64 w5 fun n182 =>
  kb p180 o180 p181 o181 n182 h

noncomputable def F15.J3 (call : CT) (lf ro : Nat) (p26 : Nat) (o26 : Nat) (p27 : Nat) (o27 : Nat) (h28 : Heap) : Out :=
  F15.L4 call lf ro lf p26 o26 p27 o27 0 h28

noncomputable def F15.PJ3 (kb : Nat → Nat → Nat → Nat → Heap → Out) (e : Env) (h : Heap) : Out :=
  getK (e.get 2) fun w2 =>
  ptrK w2 fun p183 o183 =>
  getK (e.get 3) fun w3 =>
  ptrK w3 fun p184 o184 =>
  kb p183 o183 p184 o184 h

noncomputable def F15.t (call : CT) (lf ro : Nat) (x0_0 : Int) (x0_1 : Int) (ax0_2 : Option Addr) (lx0_2 : Nat) (cx0_2 : Nat) (x1_0 : Int) (x1_1 : Int) (ax1_2 : Option Addr) (lx1_2 : Nat) (cx1_2 : Nat) (h : Heap) : Out :=
  pushJ h 1 [.int .i64 x0_0, .int .i64 x0_1, .slice ax0_2 lx0_2 cx0_2] fun h3 =>
  pushJ h3 1 [.int .i64 x1_0, .int .i64 x1_1, .slice ax1_2 lx1_2 cx1_2] fun h4 =>
  letJ (fun (b23 : Bool) (h24 : Heap) =>
  (ifK b23 (Out.ok (.bool false) h24) (F15.J3 call lf ro h.next 0 h3.next 0 h24))) fun j25 =>
  bindO (loadO Tryd.prog 3 (.pointer (some ⟨h.next, 0, none⟩)) h4) fun v185 h186 =>
  intK .i64 v185 fun n187 =>
  bindO (loadO Tryd.prog 3 (.pointer (some ⟨h3.next, 0, none⟩)) h186) fun v188 h189 =>
  intK .i64 v188 fun n190 =>
  ifK (n187 != n190) (j25 true h189) (bindO (loadO Tryd.prog 3 (.pointer (some ⟨h.next, 1, none⟩)) h189) fun v191 h192 =>
  intK .i64 v191 fun n193 =>
  bindO (loadO Tryd.prog 3 (.pointer (some ⟨h3.next, 1, none⟩)) h192) fun v194 h195 =>
  intK .i64 v194 fun n196 =>
  ifK (n193 != n196) (j25 true h195) (bindO (loadO Tryd.prog 22 (.pointer (some ⟨h.next, 2, none⟩)) h195) fun v197 h198 =>
  sliceK v197 fun a199 l199 c199 =>
  bindO (loadO Tryd.prog 22 (.pointer (some ⟨h3.next, 2, none⟩)) h198) fun v200 h201 =>
  sliceK v200 fun a202 l202 c202 =>
  j25 ((l199 : Int) != (l202 : Int)) h201))

noncomputable def F15.Ht (call : CT) (lf ro : Nat) (i : Nat) (e : Env) (h : Heap) : Out := ifK (i == 4) (F15.P4 (F15.L4 call lf ro lf) e h) (.fail)
noncomputable def F15.Ut (call : CT) (lf ro : Nat) (i : Nat) : Option (Env → Heap → Out) := ifJ (i == 3) (some (F15.PJ3 (F15.J3 call lf ro))) (none)

noncomputable def F15.H4 (call : CT) (lf ro : Nat) (kb4 : Nat → Nat → Nat → Nat → Int → Heap → Out) (i : Nat) (e : Env) (h : Heap) : Out := ifK (i == 4) (F15.P4 (F15.L4 call lf ro lf) e h) (.fail)
noncomputable def F15.U4 (call : CT) (lf ro : Nat) (kb4 : Nat → Nat → Nat → Nat → Int → Heap → Out) (i : Nat) : Option (Env → Heap → Out) := ifJ (i == 6) (some (F15.PJ6 (F15.J6 call lf ro kb4))) (ifJ (i == 3) (some (F15.PJ3 (F15.J3 call lf ro))) (none))

noncomputable def F15.C4 (call : CT) (lf ro : Nat) : COut → Out := blockK 0 (seqH Tryd.prog call ro (F15.Ht call lf ro) (F15.Ut call lf ro) (sub (codeOf Tryd.f15) [true, true, true]) (endK Tryd.prog Tryd.f15))

noncomputable def F15.K4 (call : CT) (lf ro : Nat) : COut → Out := blockK 0 (seqK Tryd.prog call lf ro (sub (codeOf Tryd.f15) [true, true, true]) (endK Tryd.prog Tryd.f15))

noncomputable def F15.CJ3 (call : CT) (lf ro : Nat) : COut → Out := endK Tryd.prog Tryd.f15

noncomputable def F15.KJ3 (call : CT) (lf ro : Nat) : COut → Out := endK Tryd.prog Tryd.f15

noncomputable def F15.CJ6 (call : CT) (lf ro : Nat) (kb4 : Nat → Nat → Nat → Nat → Int → Heap → Out) : COut → Out := outK (F15.P4 kb4) (fun i e h => F15.C4 call lf ro (.exit i e h)) (fun e h => F15.C4 call lf ro (.ret e h))

noncomputable def F15.KJ6 (call : CT) (lf ro : Nat) (kb4 : Nat → Nat → Nat → Nat → Int → Heap → Out) : COut → Out := outK (F15.P4 kb4) (fun i e h => F15.C4 call lf ro (.exit i e h)) (fun e h => F15.C4 call lf ro (.ret e h))

theorem F15.RJ6 (call : CT) (lf ro : Nat) (kb4 : Nat → Nat → Nat → Nat → Int → Heap → Out) (f : Nat → Option Value) (p39 : Nat) (o39 : Nat) (p40 : Nat) (o40 : Nat) (n41 : Int) (h42 : Heap) :
    execH Tryd.prog call ro (F15.H4 call lf ro kb4) (F15.U4 call lf ro kb4) (sub (codeOf Tryd.f15) [true, true, false, true, false, false, true]) (EF 45 (updF (updF (updF f 2 (some (.pointer (some ⟨p39, o39, none⟩)))) 3 (some (.pointer (some ⟨p40, o40, none⟩)))) 5 (some (.int .i64 n41)))) h42 (F15.CJ6 call lf ro kb4) = F15.J6 call lf ro kb4 p39 o39 p40 o40 n41 h42 := by kernel_rfl

theorem F15.CKJ6 (call : CT) (lf ro : Nat) (kb4 : Nat → Nat → Nat → Nat → Int → Heap → Out) : KLe 45 (F15.CJ6 call lf ro kb4) (F15.KJ6 call lf ro kb4) :=
  (KLe.refl _)

theorem F15.BJ6 (call : CT) (lf ro : Nat) (kb4 : Nat → Nat → Nat → Nat → Int → Heap → Out) : ∀ e h, Shaped 45 e → LeO (F15.PJ6 (F15.J6 call lf ro kb4) e h) (execK Tryd.prog call lf ro (sub (codeOf Tryd.f15) [true, true, false, true, false, false, true]) e h (F15.KJ6 call lf ro kb4)) := by
    rintro e h ⟨f, rfl⟩
    unfold F15.PJ6
    refine getK_le fun w2 g2 => ?_
    rw [EF_get (by decide)] at g2
    refine ptrK_le fun p171 o171 z203 => ?_
    subst z203
    refine getK_le fun w3 g3 => ?_
    rw [EF_get (by decide)] at g3
    refine ptrK_le fun p172 o172 z204 => ?_
    subst z204
    refine getK_le fun w5 g5 => ?_
    rw [EF_get (by decide)] at g5
    refine intK_le fun n173 z205 => ?_
    subst z205
    have hr := F15.RJ6 call lf ro kb4 f p171 o171 p172 o172 n173 h
    rw [updF_same g2, updF_same g3, updF_same g5] at hr
    exact cut_le (H := (F15.H4 call lf ro kb4)) (J := (F15.U4 call lf ro kb4)) (F15.CKJ6 call lf ro kb4) (hd_free rfl) hr

theorem F15.R4 (call : CT) (lf ro : Nat) (n : Nat) (f : Nat → Option Value) (p29 : Nat) (o29 : Nat) (p30 : Nat) (o30 : Nat) (n31 : Int) (h32 : Heap) :
    execH Tryd.prog call ro (F15.H4 call lf ro (F15.L4 call lf ro n)) (F15.U4 call lf ro (F15.L4 call lf ro n)) (sub (codeOf Tryd.f15) [true, true, false, true, false, false]) (EF 45 (updF (updF (updF f 2 (some (.pointer (some ⟨p29, o29, none⟩)))) 3 (some (.pointer (some ⟨p30, o30, none⟩)))) 5 (some (.int .i64 n31)))) h32 (outK (F15.P4 (F15.L4 call lf ro n)) (fun i e h => F15.C4 call lf ro (.exit i e h)) (fun e h => F15.C4 call lf ro (.ret e h))) = F15.L4 call lf ro (n + 1) p29 o29 p30 o30 n31 h32 := by kernel_rfl

theorem F15.CK4 (call : CT) (lf ro : Nat) : KLe 45 (F15.C4 call lf ro) (F15.K4 call lf ro) :=
  (KLe.block (KLe.seq (H := (F15.Ht call lf ro)) (J := (F15.Ut call lf ro)) (KLe.refl _) (hd_free rfl)))

theorem F15.B4 (call : CT) (lf ro : Nat) : ∀ n e h, Shaped 45 e → LeO (F15.P4 (F15.L4 call lf ro n) e h) (loopK (execK Tryd.prog call lf ro (sub (codeOf Tryd.f15) [true, true, false, true, false, false])) n e h (F15.K4 call lf ro)) := by
  refine loop_le (fun e h k k' hs hk => execK_mono _ e h k k' hs hk) (kb := fun n => F15.P4 (F15.L4 call lf ro n)) (kx := fun i e h => F15.C4 call lf ro (.exit i e h)) (kr := fun e h => F15.C4 call lf ro (.ret e h)) ?_ ?_ (fun i e h hs => (F15.CK4 call lf ro).exit i e h hs) (fun e h hs => (F15.CK4 call lf ro).ret e h hs)
  · rintro e h ⟨f, rfl⟩
    unfold F15.P4
    refine getK_le fun w2 g2 => ?_
    rw [EF_get (by decide)] at g2
    refine ptrK_le fun p180 o180 z209 => ?_
    subst z209
    refine getK_le fun w3 g3 => ?_
    rw [EF_get (by decide)] at g3
    refine ptrK_le fun p181 o181 z210 => ?_
    subst z210
    refine getK_le fun w5 g5 => ?_
    rw [EF_get (by decide)] at g5
    refine intK_le fun n182 z211 => ?_
    subst z211
    exact LeO.refl _
  · rintro n e h ⟨f, rfl⟩
    unfold F15.P4
    refine getK_le fun w2 g2 => ?_
    rw [EF_get (by decide)] at g2
    refine ptrK_le fun p180 o180 z212 => ?_
    subst z212
    refine getK_le fun w3 g3 => ?_
    rw [EF_get (by decide)] at g3
    refine ptrK_le fun p181 o181 z213 => ?_
    subst z213
    refine getK_le fun w5 g5 => ?_
    rw [EF_get (by decide)] at g5
    refine intK_le fun n182 z214 => ?_
    subst z214
    have hr := F15.R4 call lf ro n f p180 o180 p181 o181 n182 h
    rw [updF_same g2, updF_same g3, updF_same g5] at hr
    exact round_le (H := (F15.H4 call lf ro (F15.L4 call lf ro n))) (J := (F15.U4 call lf ro (F15.L4 call lf ro n))) ⟨(hd_free rfl), (fun e h hs => F15.BJ6 call lf ro (F15.L4 call lf ro n) e h hs)⟩ hr

theorem F15.RJ3 (call : CT) (lf ro : Nat) (f : Nat → Option Value) (p26 : Nat) (o26 : Nat) (p27 : Nat) (o27 : Nat) (h28 : Heap) :
    execH Tryd.prog call ro (F15.Ht call lf ro) (F15.Ut call lf ro) (sub (codeOf Tryd.f15) [true, true]) (EF 45 (updF (updF f 2 (some (.pointer (some ⟨p26, o26, none⟩)))) 3 (some (.pointer (some ⟨p27, o27, none⟩))))) h28 (F15.CJ3 call lf ro) = F15.J3 call lf ro p26 o26 p27 o27 h28 := by kernel_rfl

theorem F15.CKJ3 (call : CT) (lf ro : Nat) : KLe 45 (F15.CJ3 call lf ro) (F15.KJ3 call lf ro) :=
  (KLe.refl _)

theorem F15.BJ3 (call : CT) (lf ro : Nat) : ∀ e h, Shaped 45 e → LeO (F15.PJ3 (F15.J3 call lf ro) e h) (execK Tryd.prog call lf ro (sub (codeOf Tryd.f15) [true, true]) e h (F15.KJ3 call lf ro)) := by
    rintro e h ⟨f, rfl⟩
    unfold F15.PJ3
    refine getK_le fun w2 g2 => ?_
    rw [EF_get (by decide)] at g2
    refine ptrK_le fun p183 o183 z215 => ?_
    subst z215
    refine getK_le fun w3 g3 => ?_
    rw [EF_get (by decide)] at g3
    refine ptrK_le fun p184 o184 z216 => ?_
    subst z216
    have hr := F15.RJ3 call lf ro f p183 o183 p184 o184 h
    rw [updF_same g2, updF_same g3] at hr
    exact cut_le (H := (F15.Ht call lf ro)) (J := (F15.Ut call lf ro)) (F15.CKJ3 call lf ro) ⟨⟨(hd_free rfl), (fun e h hs => F15.B4 call lf ro  lf e h hs)⟩, (hd_free rfl)⟩ hr

theorem F15.le (call : CT) (lf ro : Nat) (x0_0 : Int) (x0_1 : Int) (ax0_2 : Option Addr) (lx0_2 : Nat) (cx0_2 : Nat) (x1_0 : Int) (x1_1 : Int) (ax1_2 : Option Addr) (lx1_2 : Nat) (cx1_2 : Nat) (h : Heap) : LeO (F15.t call lf ro x0_0 x0_1 ax0_2 lx0_2 cx0_2 x1_0 x1_1 ax1_2 lx1_2 cx1_2 h) (bodyK Tryd.prog call lf ro Tryd.f15 [.agg #[.int .i64 x0_0, .int .i64 x0_1, .slice ax0_2 lx0_2 cx0_2], .agg #[.int .i64 x1_0, .int .i64 x1_1, .slice ax1_2 lx1_2 cx1_2]] h) :=
  body_le (c := codeOf Tryd.f15) (H := F15.Ht call lf ro) (J := F15.Ut call lf ro) rfl (Nat.le_of_ble_eq_true rfl) ⟨(hd_free rfl), ⟨(hd_free rfl), (fun e h hs => F15.BJ3 call lf ro  e h hs)⟩⟩ (by kernel_rfl)

/-! ### barscan/netpbm.ReadAll: function 17 -/

noncomputable def F17.L12 (call : CT) (lf ro : Nat) (kb6 : (Option Addr) → Nat → Nat → (Option Addr) → Nat → Nat → Nat → Nat → Bool → Heap → Out) : Nat → (Option Addr) → Nat → Nat → (Option Addr) → Nat → Nat → Nat → Nat → Heap → Out
  | 0, _, _, _, _, _, _, _, _, _ => .fail
  | n + 1, a99, l99, c99, a100, l100, c100, p101, o101, h102 =>
  letJ (fun (h370 : Heap) =>
  (bindO (loadO Tryd.prog 3 (.pointer (some ⟨p101, o101 + 1, none⟩)) h370) fun v372 h373 =>
  intK .i64 v372 fun n374 =>
  kb6 a99 l99 c99 a100 l100 c100 p101 o101 (decide (n374 < (l99 : Int))) h373)) fun j371 =>
  letJ (fun (b389 : Bool) (h390 : Heap) =>
  (ifK b389 (bindO (loadO Tryd.prog 3 (.pointer (some ⟨p101, o101 + 1, none⟩)) h390) fun v392 h393 =>
  intK .i64 v392 fun n394 =>
  bindO (storeO Tryd.prog ro 3 (.pointer (some ⟨p101, o101 + 1, none⟩)) (.int .i64 (IntKind.i64.wrap (n394 + 1))) h393) fun v395 h396 =>
  F17.L12 call lf ro kb6 n a99 l99 c99 a100 l100 c100 p101 o101 h396) (j371 h390))) fun j391 =>
  bindO (loadO Tryd.prog 3 (.pointer (some ⟨p101, o101 + 1, none⟩)) h102) fun v397 h398 =>
  intK .i64 v397 fun n399 =>
  ifK (decide (n399 < (l99 : Int))) (bindO (loadO Tryd.prog 3 (.pointer (some ⟨p101, o101 + 1, none⟩)) h398) fun v400 h401 =>
  intK .i64 v400 fun n402 =>
  bindO (idxO Tryd.prog 22 (.slice a99 l99 c99) (.int .i64 n402) h401) fun v403 h404 =>
  bindO (loadO Tryd.prog 5 v403 h404) fun v405 h406 =>
  intK .u8 v405 fun n407 =>
  bindO (call ro 36 [.int .u8 n407] h406) fun v408 h409 =>
  boolK v408 fun b410 =>
  j391 b410 h409) (j391 false h398)

noncomputable def F17.P12 (kb : (Option Addr) → Nat → Nat → (Option Addr) → Nat → Nat → Nat → Nat → Heap → Out) (e : Env) (h : Heap) : Out :=
  getK (e.get 0) fun w0 =>
  sliceK w0 fun a411 l411 c411 =>
  getK (e.get 4) fun w4 =>
  sliceK w4 fun a412 l412 c412 =>
  getK (e.get 5) fun w5 =>
  ptrK w5 fun p413 o413 =>
  kb a411 l411 c411 a412 l412 c412 p413 o413 h

noncomputable def F17.J11 (call : CT) (lf ro : Nat) (kb6 : (Option Addr) → Nat → Nat → (Option Addr) → Nat → Nat → Nat → Nat → Bool → Heap → Out) (a62 : Option Addr) (l62 : Nat) (c62 : Nat) (a63 : Option Addr) (l63 : Nat) (c63 : Nat) (p64 : Nat) (o64 : Nat) (p65 : Nat) (o65 : Nat) (h66 : Heap) : Out :=
  bindO (loadO Tryd.prog 24 (.pointer (some ⟨p65, o65, none⟩)) h66) fun v622 h623 =>
  aggK v622 fun q624 =>
  consK q624 fun x625 q626 =>
  intK .i64 x625 fun n627 =>
  consK q626 fun x628 q629 =>
  intK .i64 x628 fun n630 =>
  consK q629 fun x631 q632 =>
  sliceK x631 fun a633 l633 c633 =>
  nilK q632 <|
  pushJ h623 3 [.int .i64 n627, .int .i64 n630, .slice a633 l633 c633] fun h634 =>
  bindO (appO Tryd.prog ro 41 41 (.slice a63 l63 c63) (.slice (some ⟨h623.next, 0, none⟩) 1 1) h634) fun v635 h636 =>
  sliceK v635 fun a637 l637 c637 =>
  F17.L12 call lf ro kb6 lf a62 l62 c62 a637 l637 c637 p64 o64 h636

noncomputable def F17.PJ11 (kb : (Option Addr) → Nat → Nat → (Option Addr) → Nat → Nat → Nat → Nat → Nat → Nat → Heap → Out) (e : Env) (h : Heap) : Out :=
  getK (e.get 0) fun w0 =>
  sliceK w0 fun a638 l638 c638 =>
  getK (e.get 4) fun w4 =>
  sliceK w4 fun a639 l639 c639 =>
  getK (e.get 5) fun w5 =>
  ptrK w5 fun p640 o640 =>
  getK (e.get 7) fun w7 =>
  ptrK w7 fun p641 o641 =>
  kb a638 l638 c638 a639 l639 c639 p640 o640 p641 o641 h

noncomputable def F17.J8 (call : CT) (lf ro : Nat) (kb6 : (Option Addr) → Nat → Nat → (Option Addr) → Nat → Nat → Nat → Nat → Bool → Heap → Out) (a10 : Option Addr) (l10 : Nat) (c10 : Nat) (a11 : Option Addr) (l11 : Nat) (c11 : Nat) (p12 : Nat) (o12 : Nat) (h13 : Heap) : Out :=
  bindO (call ro 35 [.pointer (some ⟨p12, o12, none⟩)] h13) fun v762 h763 =>
  tupK v762 fun q764 =>
  consK q764 fun x765 q766 =>
  aggK x765 fun q767 =>
  consK q767 fun x768 q769 =>
  intK .i64 x768 fun n770 =>
  consK q769 fun x771 q772 =>
  intK .i64 x771 fun n773 =>
  consK q772 fun x774 q775 =>
  sliceK x774 fun a776 l776 c776 =>
  nilK q775 <|
  consK q766 fun x777 q778 =>
  intK .i64 x777 fun n779 =>
  consK q778 fun x780 q781 =>
  intK .i64 x780 fun n782 =>
  nilK q781 <|
  pushJ h763 1 [.int .i64 0, .int .i64 0, .slice none 0 0] fun h783 =>
  bindO (storeO Tryd.prog ro 24 (.pointer (some ⟨h763.next, 0, none⟩)) (.agg #[.int .i64 n770, .int .i64 n773, .slice a776 l776 c776]) h783) fun v784 h785 =>
  ifK (n782 != 0) (Out.ok (.tuple #[.slice none 0 0, .int .i64 n782]) h785) (F17.J11 call lf ro kb6 a10 l10 c10 a11 l11 c11 p12 o12 h763.next 0 h785)

noncomputable def F17.PJ8 (kb : (Option Addr) → Nat → Nat → (Option Addr) → Nat → Nat → Nat → Nat → Heap → Out) (e : Env) (h : Heap) : Out :=
  getK (e.get 0) fun w0 =>
  sliceK w0 fun a786 l786 c786 =>
  getK (e.get 4) fun w4 =>
  sliceK w4 fun a787 l787 c787 =>
  getK (e.get 5) fun w5 =>
  ptrK w5 fun p788 o788 =>
  kb a786 l786 c786 a787 l787 c787 p788 o788 h

noncomputable def F17.L6 (call : CT) (lf ro : Nat) : Nat → (Option Addr) → Nat → Nat → (Option Addr) → Nat → Nat → Nat → Nat → Bool → Heap → Out
  | 0, _, _, _, _, _, _, _, _, _, _ => .fail
  | n + 1, a5, l5, c5, a6, l6, c6, p7, o7, b8, h9 =>
  ifK b8 (F17.J8 call lf ro (F17.L6 call lf ro n) a5 l5 c5 a6 l6 c6 p7 o7 h9) (Out.ok (.tuple #[.slice a6 l6 c6, .int .i64 0]) h9)

noncomputable def F17.P6 (kb : (Option Addr) → Nat → Nat → (Option Addr) → Nat → Nat → Nat → Nat → Bool → Heap → Out) (e : Env) (h : Heap) : Out :=
  getK (e.get 0) fun w0 =>
  sliceK w0 fun a789 l789 c789 =>
  getK (e.get 4) fun w4 =>
  sliceK w4 fun a790 l790 c790 =>
  getK (e.get 5) fun w5 =>
  ptrK w5 fun p791 o791 =>
  getK (e.get 6) fun w6 =>
  boolK w6 fun b792 =>
  kb a789 l789 c789 a790 l790 c790 p791 o791 b792 h

noncomputable def F17.J3 (call : CT) (lf ro : Nat) (a1 : Option Addr) (l1 : Nat) (c1 : Nat) (h2 : Heap) : Out :=
  pushJ h2 1 [.slice a1 l1 c1, .int .i64 0] fun h4 =>
  F17.L6 call lf ro lf a1 l1 c1 none 0 0 h2.next 0 true h4

noncomputable def F17.PJ3 (kb : (Option Addr) → Nat → Nat → Heap → Out) (e : Env) (h : Heap) : Out :=
  getK (e.get 0) fun w0 =>
  sliceK w0 fun a793 l793 c793 =>
  kb a793 l793 c793 h

noncomputable def F17.t (call : CT) (lf ro : Nat) (ax0 : Option Addr) (lx0 : Nat) (cx0 : Nat) (h : Heap) : Out :=
  ifK (decide ((lx0 : Int) > 4194304)) (Out.ok (.tuple #[.slice none 0 0, .int .i64 4]) h) (F17.J3 call lf ro ax0 lx0 cx0 h)

noncomputable def F17.Ht (call : CT) (lf ro : Nat) (i : Nat) (e : Env) (h : Heap) : Out := ifK (i == 6) (F17.P6 (F17.L6 call lf ro lf) e h) (.fail)
noncomputable def F17.Ut (call : CT) (lf ro : Nat) (i : Nat) : Option (Env → Heap → Out) := ifJ (i == 3) (some (F17.PJ3 (F17.J3 call lf ro))) (none)

noncomputable def F17.H12 (call : CT) (lf ro : Nat) (kb6 : (Option Addr) → Nat → Nat → (Option Addr) → Nat → Nat → Nat → Nat → Bool → Heap → Out) (kb12 : (Option Addr) → Nat → Nat → (Option Addr) → Nat → Nat → Nat → Nat → Heap → Out) (i : Nat) (e : Env) (h : Heap) : Out := ifK (i == 12) (F17.P12 (F17.L12 call lf ro kb6 lf) e h) (ifK (i == 6) (F17.P6 (F17.L6 call lf ro lf) e h) (.fail))
noncomputable def F17.U12 (call : CT) (lf ro : Nat) (kb6 : (Option Addr) → Nat → Nat → (Option Addr) → Nat → Nat → Nat → Nat → Bool → Heap → Out) (kb12 : (Option Addr) → Nat → Nat → (Option Addr) → Nat → Nat → Nat → Nat → Heap → Out) (i : Nat) : Option (Env → Heap → Out) := ifJ (i == 11) (some (F17.PJ11 (F17.J11 call lf ro kb6))) (ifJ (i == 8) (some (F17.PJ8 (F17.J8 call lf ro kb6))) (ifJ (i == 3) (some (F17.PJ3 (F17.J3 call lf ro))) (none)))

noncomputable def F17.H6 (call : CT) (lf ro : Nat) (kb6 : (Option Addr) → Nat → Nat → (Option Addr) → Nat → Nat → Nat → Nat → Bool → Heap → Out) (i : Nat) (e : Env) (h : Heap) : Out := ifK (i == 12) (F17.P12 (F17.L12 call lf ro kb6 lf) e h) (ifK (i == 6) (F17.P6 (F17.L6 call lf ro lf) e h) (.fail))
noncomputable def F17.U6 (call : CT) (lf ro : Nat) (kb6 : (Option Addr) → Nat → Nat → (Option Addr) → Nat → Nat → Nat → Nat → Bool → Heap → Out) (i : Nat) : Option (Env → Heap → Out) := ifJ (i == 11) (some (F17.PJ11 (F17.J11 call lf ro kb6))) (ifJ (i == 8) (some (F17.PJ8 (F17.J8 call lf ro kb6))) (ifJ (i == 3) (some (F17.PJ3 (F17.J3 call lf ro))) (none)))

noncomputable def F17.C6 (call : CT) (lf ro : Nat) : COut → Out := blockK 0 (seqH Tryd.prog call ro (F17.Ht call lf ro) (F17.Ut call lf ro) (sub (codeOf Tryd.f17) [true, true, true, true, true]) (endK Tryd.prog Tryd.f17))

noncomputable def F17.K6 (call : CT) (lf ro : Nat) : COut → Out := blockK 0 (seqK Tryd.prog call lf ro (sub (codeOf Tryd.f17) [true, true, true, true, true]) (endK Tryd.prog Tryd.f17))

noncomputable def F17.CJ3 (call : CT) (lf ro : Nat) : COut → Out := endK Tryd.prog Tryd.f17

noncomputable def F17.KJ3 (call : CT) (lf ro : Nat) : COut → Out := endK Tryd.prog Tryd.f17

noncomputable def F17.C12 (call : CT) (lf ro : Nat) (kb6 : (Option Addr) → Nat → Nat → (Option Addr) → Nat → Nat → Nat → Nat → Bool → Heap → Out) : COut → Out := blockK 2 (blockK 1 (seqH Tryd.prog call ro (F17.H6 call lf ro kb6) (F17.U6 call lf ro kb6) (sub (codeOf Tryd.f17) [true, true, true, true, false, true, false, false, true, true]) (outK (F17.P6 kb6) (fun i e h => F17.C6 call lf ro (.exit i e h)) (fun e h => F17.C6 call lf ro (.ret e h)))))

noncomputable def F17.K12 (call : CT) (lf ro : Nat) (kb6 : (Option Addr) → Nat → Nat → (Option Addr) → Nat → Nat → Nat → Nat → Bool → Heap → Out) : COut → Out := blockK 2 (blockK 1 (seqK Tryd.prog call lf ro (sub (codeOf Tryd.f17) [true, true, true, true, false, true, false, false, true, true]) (outK (F17.P6 kb6) (fun i e h => F17.C6 call lf ro (.exit i e h)) (fun e h => F17.C6 call lf ro (.ret e h)))))

noncomputable def F17.CJ11 (call : CT) (lf ro : Nat) (kb6 : (Option Addr) → Nat → Nat → (Option Addr) → Nat → Nat → Nat → Nat → Bool → Heap → Out) : COut → Out := blockK 1 (seqH Tryd.prog call ro (F17.H6 call lf ro kb6) (F17.U6 call lf ro kb6) (sub (codeOf Tryd.f17) [true, true, true, true, false, true, false, false, true, true]) (outK (F17.P6 kb6) (fun i e h => F17.C6 call lf ro (.exit i e h)) (fun e h => F17.C6 call lf ro (.ret e h))))

noncomputable def F17.KJ11 (call : CT) (lf ro : Nat) (kb6 : (Option Addr) → Nat → Nat → (Option Addr) → Nat → Nat → Nat → Nat → Bool → Heap → Out) : COut → Out := blockK 1 (seqK Tryd.prog call lf ro (sub (codeOf Tryd.f17) [true, true, true, true, false, true, false, false, true, true]) (outK (F17.P6 kb6) (fun i e h => F17.C6 call lf ro (.exit i e h)) (fun e h => F17.C6 call lf ro (.ret e h))))

noncomputable def F17.CJ8 (call : CT) (lf ro : Nat) (kb6 : (Option Addr) → Nat → Nat → (Option Addr) → Nat → Nat → Nat → Nat → Bool → Heap → Out) : COut → Out := outK (F17.P6 kb6) (fun i e h => F17.C6 call lf ro (.exit i e h)) (fun e h => F17.C6 call lf ro (.ret e h))

noncomputable def F17.KJ8 (call : CT) (lf ro : Nat) (kb6 : (Option Addr) → Nat → Nat → (Option Addr) → Nat → Nat → Nat → Nat → Bool → Heap → Out) : COut → Out := outK (F17.P6 kb6) (fun i e h => F17.C6 call lf ro (.exit i e h)) (fun e h => F17.C6 call lf ro (.ret e h))

theorem F17.R12 (call : CT) (lf ro : Nat) (kb6 : (Option Addr) → Nat → Nat → (Option Addr) → Nat → Nat → Nat → Nat → Bool → Heap → Out) (n : Nat) (f : Nat → Option Value) (a99 : Option Addr) (l99 : Nat) (c99 : Nat) (a100 : Option Addr) (l100 : Nat) (c100 : Nat) (p101 : Nat) (o101 : Nat) (h102 : Heap) :
    execH Tryd.prog call ro (F17.H12 call lf ro kb6 (F17.L12 call lf ro kb6 n)) (F17.U12 call lf ro kb6 (F17.L12 call lf ro kb6 n)) (sub (codeOf Tryd.f17) [true, true, true, true, false, true, false, false, true, false, false, true, true, true, false, false]) (EF 62 (updF (updF (updF f 0 (some (.slice a99 l99 c99))) 4 (some (.slice a100 l100 c100))) 5 (some (.pointer (some ⟨p101, o101, none⟩))))) h102 (outK (F17.P12 (F17.L12 call lf ro kb6 n)) (fun i e h => F17.C12 call lf ro kb6 (.exit i e h)) (fun e h => F17.C12 call lf ro kb6 (.ret e h))) = F17.L12 call lf ro kb6 (n + 1) a99 l99 c99 a100 l100 c100 p101 o101 h102 := by kernel_rfl

theorem F17.CK12 (call : CT) (lf ro : Nat) (kb6 : (Option Addr) → Nat → Nat → (Option Addr) → Nat → Nat → Nat → Nat → Bool → Heap → Out) : KLe 62 (F17.C12 call lf ro kb6) (F17.K12 call lf ro kb6) :=
  (KLe.block (KLe.block (KLe.seq (H := (F17.H6 call lf ro kb6)) (J := (F17.U6 call lf ro kb6)) (KLe.refl _) (hd_free rfl))))

theorem F17.B12 (call : CT) (lf ro : Nat) (kb6 : (Option Addr) → Nat → Nat → (Option Addr) → Nat → Nat → Nat → Nat → Bool → Heap → Out) : ∀ n e h, Shaped 62 e → LeO (F17.P12 (F17.L12 call lf ro kb6 n) e h) (loopK (execK Tryd.prog call lf ro (sub (codeOf Tryd.f17) [true, true, true, true, false, true, false, false, true, false, false, true, true, true, false, false])) n e h (F17.K12 call lf ro kb6)) := by
  refine loop_le (fun e h k k' hs hk => execK_mono _ e h k k' hs hk) (kb := fun n => F17.P12 (F17.L12 call lf ro kb6 n)) (kx := fun i e h => F17.C12 call lf ro kb6 (.exit i e h)) (kr := fun e h => F17.C12 call lf ro kb6 (.ret e h)) ?_ ?_ (fun i e h hs => (F17.CK12 call lf ro kb6).exit i e h hs) (fun e h hs => (F17.CK12 call lf ro kb6).ret e h hs)
  · rintro e h ⟨f, rfl⟩
    unfold F17.P12
    refine getK_le fun w0 g0 => ?_
    rw [EF_get (by decide)] at g0
    refine sliceK_le fun a411 l411 c411 z794 => ?_
    subst z794
    refine getK_le fun w4 g4 => ?_
    rw [EF_get (by decide)] at g4
    refine sliceK_le fun a412 l412 c412 z795 => ?_
    subst z795
    refine getK_le fun w5 g5 => ?_
    rw [EF_get (by decide)] at g5
    refine ptrK_le fun p413 o413 z796 => ?_
    subst z796
    exact LeO.refl _
  · rintro n e h ⟨f, rfl⟩
    unfold F17.P12
    refine getK_le fun w0 g0 => ?_
    rw [EF_get (by decide)] at g0
    refine sliceK_le fun a411 l411 c411 z797 => ?_
    subst z797
    refine getK_le fun w4 g4 => ?_
    rw [EF_get (by decide)] at g4
    refine sliceK_le fun a412 l412 c412 z798 => ?_
    subst z798
    refine getK_le fun w5 g5 => ?_
    rw [EF_get (by decide)] at g5
    refine ptrK_le fun p413 o413 z799 => ?_
    subst z799
    have hr := F17.R12 call lf ro kb6 n f a411 l411 c411 a412 l412 c412 p413 o413 h
    rw [updF_same g0, updF_same g4, updF_same g5] at hr
    exact round_le (H := (F17.H12 call lf ro kb6 (F17.L12 call lf ro kb6 n))) (J := (F17.U12 call lf ro kb6 (F17.L12 call lf ro kb6 n))) (hd_free rfl) hr

theorem F17.RJ11 (call : CT) (lf ro : Nat) (kb6 : (Option Addr) → Nat → Nat → (Option Addr) → Nat → Nat → Nat → Nat → Bool → Heap → Out) (f : Nat → Option Value) (a62 : Option Addr) (l62 : Nat) (c62 : Nat) (a63 : Option Addr) (l63 : Nat) (c63 : Nat) (p64 : Nat) (o64 : Nat) (p65 : Nat) (o65 : Nat) (h66 : Heap) :
    execH Tryd.prog call ro (F17.H6 call lf ro kb6) (F17.U6 call lf ro kb6) (sub (codeOf Tryd.f17) [true, true, true, true, false, true, false, false, true, false, false, true, true]) (EF 62 (updF (updF (updF (updF f 0 (some (.slice a62 l62 c62))) 4 (some (.slice a63 l63 c63))) 5 (some (.pointer (some ⟨p64, o64, none⟩)))) 7 (some (.pointer (some ⟨p65, o65, none⟩))))) h66 (F17.CJ11 call lf ro kb6) = F17.J11 call lf ro kb6 a62 l62 c62 a63 l63 c63 p64 o64 p65 o65 h66 := by kernel_rfl

theorem F17.CKJ11 (call : CT) (lf ro : Nat) (kb6 : (Option Addr) → Nat → Nat → (Option Addr) → Nat → Nat → Nat → Nat → Bool → Heap → Out) : KLe 62 (F17.CJ11 call lf ro kb6) (F17.KJ11 call lf ro kb6) :=
  (KLe.block (KLe.seq (H := (F17.H6 call lf ro kb6)) (J := (F17.U6 call lf ro kb6)) (KLe.refl _) (hd_free rfl)))

theorem F17.BJ11 (call : CT) (lf ro : Nat) (kb6 : (Option Addr) → Nat → Nat → (Option Addr) → Nat → Nat → Nat → Nat → Bool → Heap → Out) : ∀ e h, Shaped 62 e → LeO (F17.PJ11 (F17.J11 call lf ro kb6) e h) (execK Tryd.prog call lf ro (sub (codeOf Tryd.f17) [true, true, true, true, false, true, false, false, true, false, false, true, true]) e h (F17.KJ11 call lf ro kb6)) := by
    rintro e h ⟨f, rfl⟩
    unfold F17.PJ11
    refine getK_le fun w0 g0 => ?_
    rw [EF_get (by decide)] at g0
    refine sliceK_le fun a638 l638 c638 z800 => ?_
    subst z800
    refine getK_le fun w4 g4 => ?_
    rw [EF_get (by decide)] at g4
    refine sliceK_le fun a639 l639 c639 z801 => ?_
    subst z801
    refine getK_le fun w5 g5 => ?_
    rw [EF_get (by decide)] at g5
    refine ptrK_le fun p640 o640 z802 => ?_
    subst z802
    refine getK_le fun w7 g7 => ?_
    rw [EF_get (by decide)] at g7
    refine ptrK_le fun p641 o641 z803 => ?_
    subst z803
    have hr := F17.RJ11 call lf ro kb6 f a638 l638 c638 a639 l639 c639 p640 o640 p641 o641 h
    rw [updF_same g0, updF_same g4, updF_same g5, updF_same g7] at hr
    exact cut_le (H := (F17.H6 call lf ro kb6)) (J := (F17.U6 call lf ro kb6)) (F17.CKJ11 call lf ro kb6) ⟨(hd_free rfl), (fun e h hs => F17.B12 call lf ro kb6 lf e h hs)⟩ hr

theorem F17.RJ8 (call : CT) (lf ro : Nat) (kb6 : (Option Addr) → Nat → Nat → (Option Addr) → Nat → Nat → Nat → Nat → Bool → Heap → Out) (f : Nat → Option Value) (a10 : Option Addr) (l10 : Nat) (c10 : Nat) (a11 : Option Addr) (l11 : Nat) (c11 : Nat) (p12 : Nat) (o12 : Nat) (h13 : Heap) :
    execH Tryd.prog call ro (F17.H6 call lf ro kb6) (F17.U6 call lf ro kb6) (sub (codeOf Tryd.f17) [true, true, true, true, false, true, false, false, true]) (EF 62 (updF (updF (updF f 0 (some (.slice a10 l10 c10))) 4 (some (.slice a11 l11 c11))) 5 (some (.pointer (some ⟨p12, o12, none⟩))))) h13 (F17.CJ8 call lf ro kb6) = F17.J8 call lf ro kb6 a10 l10 c10 a11 l11 c11 p12 o12 h13 := by kernel_rfl

theorem F17.CKJ8 (call : CT) (lf ro : Nat) (kb6 : (Option Addr) → Nat → Nat → (Option Addr) → Nat → Nat → Nat → Nat → Bool → Heap → Out) : KLe 62 (F17.CJ8 call lf ro kb6) (F17.KJ8 call lf ro kb6) :=
  (KLe.refl _)

theorem F17.BJ8 (call : CT) (lf ro : Nat) (kb6 : (Option Addr) → Nat → Nat → (Option Addr) → Nat → Nat → Nat → Nat → Bool → Heap → Out) : ∀ e h, Shaped 62 e → LeO (F17.PJ8 (F17.J8 call lf ro kb6) e h) (execK Tryd.prog call lf ro (sub (codeOf Tryd.f17) [true, true, true, true, false, true, false, false, true]) e h (F17.KJ8 call lf ro kb6)) := by
    rintro e h ⟨f, rfl⟩
    unfold F17.PJ8
    refine getK_le fun w0 g0 => ?_
    rw [EF_get (by decide)] at g0
    refine sliceK_le fun a786 l786 c786 z808 => ?_
    subst z808
    refine getK_le fun w4 g4 => ?_
    rw [EF_get (by decide)] at g4
    refine sliceK_le fun a787 l787 c787 z809 => ?_
    subst z809
    refine getK_le fun w5 g5 => ?_
    rw [EF_get (by decide)] at g5
    refine ptrK_le fun p788 o788 z810 => ?_
    subst z810
    have hr := F17.RJ8 call lf ro kb6 f a786 l786 c786 a787 l787 c787 p788 o788 h
    rw [updF_same g0, updF_same g4, updF_same g5] at hr
    exact cut_le (H := (F17.H6 call lf ro kb6)) (J := (F17.U6 call lf ro kb6)) (F17.CKJ8 call lf ro kb6) ⟨⟨(hd_free rfl), ⟨(hd_free rfl), (fun e h hs => F17.BJ11 call lf ro kb6 e h hs)⟩⟩, (hd_free rfl)⟩ hr

theorem F17.R6 (call : CT) (lf ro : Nat) (n : Nat) (f : Nat → Option Value) (a5 : Option Addr) (l5 : Nat) (c5 : Nat) (a6 : Option Addr) (l6 : Nat) (c6 : Nat) (p7 : Nat) (o7 : Nat) (b8 : Bool) (h9 : Heap) :
    execH Tryd.prog call ro (F17.H6 call lf ro (F17.L6 call lf ro n)) (F17.U6 call lf ro (F17.L6 call lf ro n)) (sub (codeOf Tryd.f17) [true, true, true, true, false, true, false, false]) (EF 62 (updF (updF (updF (updF f 0 (some (.slice a5 l5 c5))) 4 (some (.slice a6 l6 c6))) 5 (some (.pointer (some ⟨p7, o7, none⟩)))) 6 (some (.bool b8)))) h9 (outK (F17.P6 (F17.L6 call lf ro n)) (fun i e h => F17.C6 call lf ro (.exit i e h)) (fun e h => F17.C6 call lf ro (.ret e h))) = F17.L6 call lf ro (n + 1) a5 l5 c5 a6 l6 c6 p7 o7 b8 h9 := by kernel_rfl

theorem F17.CK6 (call : CT) (lf ro : Nat) : KLe 62 (F17.C6 call lf ro) (F17.K6 call lf ro) :=
  (KLe.block (KLe.seq (H := (F17.Ht call lf ro)) (J := (F17.Ut call lf ro)) (KLe.refl _) (hd_free rfl)))

theorem F17.B6 (call : CT) (lf ro : Nat) : ∀ n e h, Shaped 62 e → LeO (F17.P6 (F17.L6 call lf ro n) e h) (loopK (execK Tryd.prog call lf ro (sub (codeOf Tryd.f17) [true, true, true, true, false, true, false, false])) n e h (F17.K6 call lf ro)) := by
  refine loop_le (fun e h k k' hs hk => execK_mono _ e h k k' hs hk) (kb := fun n => F17.P6 (F17.L6 call lf ro n)) (kx := fun i e h => F17.C6 call lf ro (.exit i e h)) (kr := fun e h => F17.C6 call lf ro (.ret e h)) ?_ ?_ (fun i e h hs => (F17.CK6 call lf ro).exit i e h hs) (fun e h hs => (F17.CK6 call lf ro).ret e h hs)
  · rintro e h ⟨f, rfl⟩
    unfold F17.P6
    refine getK_le fun w0 g0 => ?_
    rw [EF_get (by decide)] at g0
    refine sliceK_le fun a789 l789 c789 z814 => ?_
    subst z814
    refine getK_le fun w4 g4 => ?_
    rw [EF_get (by decide)] at g4
    refine sliceK_le fun a790 l790 c790 z815 => ?_
    subst z815
    refine getK_le fun w5 g5 => ?_
    rw [EF_get (by decide)] at g5
    refine ptrK_le fun p791 o791 z816 => ?_
    subst z816
    refine getK_le fun w6 g6 => ?_
    rw [EF_get (by decide)] at g6
    refine boolK_le fun b792 z817 => ?_
    subst z817
    exact LeO.refl _
  · rintro n e h ⟨f, rfl⟩
    unfold F17.P6
    refine getK_le fun w0 g0 => ?_
    rw [EF_get (by decide)] at g0
    refine sliceK_le fun a789 l789 c789 z818 => ?_
    subst z818
    refine getK_le fun w4 g4 => ?_
    rw [EF_get (by decide)] at g4
    refine sliceK_le fun a790 l790 c790 z819 => ?_
    subst z819
    refine getK_le fun w5 g5 => ?_
    rw [EF_get (by decide)] at g5
    refine ptrK_le fun p791 o791 z820 => ?_
    subst z820
    refine getK_le fun w6 g6 => ?_
    rw [EF_get (by decide)] at g6
    refine boolK_le fun b792 z821 => ?_
    subst z821
    have hr := F17.R6 call lf ro n f a789 l789 c789 a790 l790 c790 p791 o791 b792 h
    rw [updF_same g0, updF_same g4, updF_same g5, updF_same g6] at hr
    exact round_le (H := (F17.H6 call lf ro (F17.L6 call lf ro n))) (J := (F17.U6 call lf ro (F17.L6 call lf ro n))) ⟨(hd_free rfl), (fun e h hs => F17.BJ8 call lf ro (F17.L6 call lf ro n) e h hs)⟩ hr

theorem F17.RJ3 (call : CT) (lf ro : Nat) (f : Nat → Option Value) (a1 : Option Addr) (l1 : Nat) (c1 : Nat) (h2 : Heap) :
    execH Tryd.prog call ro (F17.Ht call lf ro) (F17.Ut call lf ro) (sub (codeOf Tryd.f17) [true, true]) (EF 62 (updF f 0 (some (.slice a1 l1 c1)))) h2 (F17.CJ3 call lf ro) = F17.J3 call lf ro a1 l1 c1 h2 := by kernel_rfl

theorem F17.CKJ3 (call : CT) (lf ro : Nat) : KLe 62 (F17.CJ3 call lf ro) (F17.KJ3 call lf ro) :=
  (KLe.refl _)

theorem F17.BJ3 (call : CT) (lf ro : Nat) : ∀ e h, Shaped 62 e → LeO (F17.PJ3 (F17.J3 call lf ro) e h) (execK Tryd.prog call lf ro (sub (codeOf Tryd.f17) [true, true]) e h (F17.KJ3 call lf ro)) := by
    rintro e h ⟨f, rfl⟩
    unfold F17.PJ3
    refine getK_le fun w0 g0 => ?_
    rw [EF_get (by decide)] at g0
    refine sliceK_le fun a793 l793 c793 z822 => ?_
    subst z822
    have hr := F17.RJ3 call lf ro f a793 l793 c793 h
    rw [updF_same g0] at hr
    exact cut_le (H := (F17.Ht call lf ro)) (J := (F17.Ut call lf ro)) (F17.CKJ3 call lf ro) ⟨(hd_free rfl), ⟨(hd_free rfl), ⟨⟨(hd_free rfl), (fun e h hs => F17.B6 call lf ro  lf e h hs)⟩, (hd_free rfl)⟩⟩⟩ hr

theorem F17.le (call : CT) (lf ro : Nat) (ax0 : Option Addr) (lx0 : Nat) (cx0 : Nat) (h : Heap) : LeO (F17.t call lf ro ax0 lx0 cx0 h) (bodyK Tryd.prog call lf ro Tryd.f17 [.slice ax0 lx0 cx0] h) :=
  body_le (c := codeOf Tryd.f17) (H := F17.Ht call lf ro) (J := F17.Ut call lf ro) rfl (Nat.le_of_ble_eq_true rfl) ⟨(hd_free rfl), ⟨(hd_free rfl), (fun e h hs => F17.BJ3 call lf ro  e h hs)⟩⟩ (by kernel_rfl)

/-! ### barscan/barscanlaw32.NetpbmJoins: function 8 -/

noncomputable def F8.J8 (call : CT) (lf ro : Nat) (kb6 : (Option Addr) → Nat → Nat → (Option Addr) → Nat → Nat → (Option Addr) → Nat → Nat → (Option Addr) → Nat → Nat → Int → Heap → Out) (a18 : Option Addr) (l18 : Nat) (c18 : Nat) (a19 : Option Addr) (l19 : Nat) (c19 : Nat) (a20 : Option Addr) (l20 : Nat) (c20 : Nat) (a21 : Option Addr) (l21 : Nat) (c21 : Nat) (n22 : Int) (h23 : Heap) : Out :=
  letJ (fun (a104 : Option Addr) (l104 : Nat) (c104 : Nat) (a105 : Option Addr) (l105 : Nat) (c105 : Nat) (h106 : Heap) =>
  (kb6 a18 l18 c18 a19 l19 c19 a104 l104 c104 a105 l105 c105 (IntKind.i64.wrap (n22 + 1)) h106)) fun j107 =>
  bindN (idxO Tryd.prog 41 (.slice a18 l18 c18) (.int .i64 n22) h23) fun v136 h137 =>
  bindN (loadO Tryd.prog 24 v136 h137) fun v138 h139 =>
  aggK v138 fun q140 =>
  consK q140 fun x141 q142 =>
  intK .i64 x141 fun n143 =>
  consK q142 fun x144 q145 =>
  intK .i64 x144 fun n146 =>
  consK q145 fun x147 q148 =>
  sliceK x147 fun a149 l149 c149 =>
  nilK q148 <|
  bindN (idxO Tryd.prog 22 (.slice a19 l19 c19) (.int .i64 n22) h139) fun v150 h151 =>
  bindN (loadO Tryd.prog 5 v150 h151) fun v152 h153 =>
  intK .u8 v152 fun n154 =>
  bindN (call ro 12 [.agg #[.int .i64 n143, .int .i64 n146, .slice a149 l149 c149], .int .u8 n154] h153) fun v155 h156 =>
  tupK v155 fun q157 =>
  consK q157 fun x158 q159 =>
  sliceK x158 fun a160 l160 c160 =>
  consK q159 fun x161 q162 =>
  intK .i64 x161 fun n163 =>
  nilK q162 <|
  ifK (decide ((l160 : Int) > 0)) (bindO (appO Tryd.prog ro 22 22 (.slice a20 l20 c20) (.slice a160 l160 c160) h156) fun v167 h168 =>
  sliceK v167 fun a169 l169 c169 =>
  bindO (idxO Tryd.prog 41 (.slice a18 l18 c18) (.int .i64 n22) h168) fun v170 h171 =>
  bindO (loadO Tryd.prog 24 v170 h171) fun v172 h173 =>
  aggK v172 fun q174 =>
  consK q174 fun x175 q176 =>
  intK .i64 x175 fun n177 =>
  consK q176 fun x178 q179 =>
  intK .i64 x178 fun n180 =>
  consK q179 fun x181 q182 =>
  sliceK x181 fun a183 l183 c183 =>
  nilK q182 <|
  pushJ h173 3 [.int .i64 n177, .int .i64 n180, .slice a183 l183 c183] fun h184 =>
  bindO (appO Tryd.prog ro 41 41 (.slice a21 l21 c21) (.slice (some ⟨h173.next, 0, none⟩) 1 1) h184) fun v185 h186 =>
  sliceK v185 fun a187 l187 c187 =>
  j107 a169 l169 c169 a187 l187 c187 h186) (j107 a20 l20 c20 a21 l21 c21 h156)

noncomputable def F8.PJ8 (kb : (Option Addr) → Nat → Nat → (Option Addr) → Nat → Nat → (Option Addr) → Nat → Nat → (Option Addr) → Nat → Nat → Int → Heap → Out) (e : Env) (h : Heap) : Out :=
  getK (e.get 0) fun w0 =>
  sliceK w0 fun a188 l188 c188 =>
  getK (e.get 1) fun w1 =>
  sliceK w1 fun a189 l189 c189 =>
  getK (e.get 5) fun w5 =>
  sliceK w5 fun a190 l190 c190 =>
  getK (e.get 6) fun w6 =>
  sliceK w6 fun a191 l191 c191 =>
  getK (e.get 7) fun w7 =>
  intK .i64 w7 fun n192 =>
  kb a188 l188 c188 a189 l189 c189 a190 l190 c190 a191 l191 c191 n192 h

noncomputable def F8.J20 (call : CT) (lf ro : Nat) (kb18 : (Option Addr) → Nat → Nat → (Option Addr) → Nat → Nat → Int → Heap → Out) (a236 : Option Addr) (l236 : Nat) (c236 : Nat) (a237 : Option Addr) (l237 : Nat) (c237 : Nat) (n238 : Int) (h239 : Heap) : Out :=
  bindN (idxO Tryd.prog 41 (.slice a237 l237 c237) (.int .i64 n238) h239) fun v457 h458 =>
  bindN (loadO Tryd.prog 24 v457 h458) fun v459 h460 =>
  aggK v459 fun q461 =>
  consK q461 fun x462 q463 =>
  intK .i64 x462 fun n464 =>
  consK q463 fun x465 q466 =>
  intK .i64 x465 fun n467 =>
  consK q466 fun x468 q469 =>
  sliceK x468 fun a470 l470 c470 =>
  nilK q469 <|
  bindN (idxO Tryd.prog 41 (.slice a236 l236 c236) (.int .i64 n238) h460) fun v471 h472 =>
  bindN (loadO Tryd.prog 24 v471 h472) fun v473 h474 =>
  aggK v473 fun q475 =>
  consK q475 fun x476 q477 =>
  intK .i64 x476 fun n478 =>
  consK q477 fun x479 q480 =>
  intK .i64 x479 fun n481 =>
  consK q480 fun x482 q483 =>
  sliceK x482 fun a484 l484 c484 =>
  nilK q483 <|
  bindO (call ro 15 [.agg #[.int .i64 n464, .int .i64 n467, .slice a470 l470 c470], .agg #[.int .i64 n478, .int .i64 n481, .slice a484 l484 c484]] h474) fun v485 h486 =>
  boolK v485 fun b487 =>
  ifK (!b487) (Out.ok (.bool false) h486) (kb18 a236 l236 c236 a237 l237 c237 (IntKind.i64.wrap (n238 + 1)) h486)

noncomputable def F8.PJ20 (kb : (Option Addr) → Nat → Nat → (Option Addr) → Nat → Nat → Int → Heap → Out) (e : Env) (h : Heap) : Out :=
  getK (e.get 6) fun w6 =>
  sliceK w6 fun a488 l488 c488 =>
  getK (e.get 10) fun w10 =>
  sliceK w10 fun a489 l489 c489 =>
  getK (e.get 12) fun w12 =>
  intK .i64 w12 fun n490 =>
  kb a488 l488 c488 a489 l489 c489 n490 h

noncomputable def F8.L18 (call : CT) (lf ro : Nat) : Nat → (Option Addr) → Nat → Nat → (Option Addr) → Nat → Nat → Int → Heap → Out
  | 0, _, _, _, _, _, _, _, _ => .fail
  | n + 1, a232, l232, c232, a233, l233, c233, n234, h235 =>
  ifK (decide (n234 < (l232 : Int))) (F8.J20 call lf ro (F8.L18 call lf ro n) a232 l232 c232 a233 l233 c233 n234 h235) (bindO (call ro 9 [] h235) fun v494 h495 =>
  boolK v494 fun b496 =>
  Out.ok (.bool b496) h495)

noncomputable def F8.P18 (kb : (Option Addr) → Nat → Nat → (Option Addr) → Nat → Nat → Int → Heap → Out) (e : Env) (h : Heap) : Out :=
  getK (e.get 6) fun w6 =>
  sliceK w6 fun a497 l497 c497 =>
  getK (e.get 10) fun w10 =>
  sliceK w10 fun a498 l498 c498 =>
  getK (e.get 12) fun w12 =>
  intK .i64 w12 fun n499 =>
  kb a497 l497 c497 a498 l498 c498 n499 h

noncomputable def F8.J17 (call : CT) (lf ro : Nat) (a229 : Option Addr) (l229 : Nat) (c229 : Nat) (a230 : Option Addr) (l230 : Nat) (c230 : Nat) (h231 : Heap) : Out :=
  F8.L18 call lf ro lf a229 l229 c229 a230 l230 c230 0 h231

noncomputable def F8.PJ17 (kb : (Option Addr) → Nat → Nat → (Option Addr) → Nat → Nat → Heap → Out) (e : Env) (h : Heap) : Out :=
  getK (e.get 6) fun w6 =>
  sliceK w6 fun a500 l500 c500 =>
  getK (e.get 10) fun w10 =>
  sliceK w10 fun a501 l501 c501 =>
  kb a500 l500 c500 a501 l501 c501 h

noncomputable def F8.J15 (call : CT) (lf ro : Nat) (a223 : Option Addr) (l223 : Nat) (c223 : Nat) (a224 : Option Addr) (l224 : Nat) (c224 : Nat) (n225 : Int) (h226 : Heap) : Out :=
  letJ (fun (b227 : Bool) =>
  (ifK b227 (Out.ok (.bool false) h226) (F8.J17 call lf ro a223 l223 c223 a224 l224 c224 h226))) fun j228 =>
  ifK (n225 != 0) (j228 true) (j228 ((l224 : Int) != (l223 : Int)))

noncomputable def F8.PJ15 (kb : (Option Addr) → Nat → Nat → (Option Addr) → Nat → Nat → Int → Heap → Out) (e : Env) (h : Heap) : Out :=
  getK (e.get 6) fun w6 =>
  sliceK w6 fun a502 l502 c502 =>
  getK (e.get 10) fun w10 =>
  sliceK w10 fun a503 l503 c503 =>
  getK (e.get 11) fun w11 =>
  intK .i64 w11 fun n504 =>
  kb a502 l502 c502 a503 l503 c503 n504 h

noncomputable def F8.J12 (call : CT) (lf ro : Nat) (a193 : Option Addr) (l193 : Nat) (c193 : Nat) (a194 : Option Addr) (l194 : Nat) (c194 : Nat) (h195 : Heap) : Out :=
  bindO (call ro 17 [.slice a193 l193 c193] h195) fun v205 h206 =>
  tupK v205 fun q207 =>
  consK q207 fun x208 q209 =>
  sliceK x208 fun a210 l210 c210 =>
  consK q209 fun x211 q212 =>
  intK .i64 x211 fun n213 =>
  nilK q212 <|
  ifK ((l194 : Int) == 0) (letJ (fun (b217 : Bool) (h218 : Heap) =>
  (Out.ok (.bool b217) h218)) fun j219 =>
  ifK (n213 == 25) (ifK ((l210 : Int) == 0) (bindO (call ro 9 [] h206) fun v220 h221 =>
  boolK v220 fun b222 =>
  j219 b222 h221) (j219 false h206)) (j219 false h206)) (F8.J15 call lf ro a194 l194 c194 a210 l210 c210 n213 h206)

noncomputable def F8.PJ12 (kb : (Option Addr) → Nat → Nat → (Option Addr) → Nat → Nat → Heap → Out) (e : Env) (h : Heap) : Out :=
  getK (e.get 5) fun w5 =>
  sliceK w5 fun a505 l505 c505 =>
  getK (e.get 6) fun w6 =>
  sliceK w6 fun a506 l506 c506 =>
  kb a505 l505 c505 a506 l506 c506 h

noncomputable def F8.L6 (call : CT) (lf ro : Nat) : Nat → (Option Addr) → Nat → Nat → (Option Addr) → Nat → Nat → (Option Addr) → Nat → Nat → (Option Addr) → Nat → Nat → Int → Heap → Out
  | 0, _, _, _, _, _, _, _, _, _, _, _, _, _, _ => .fail
  | n + 1, a10, l10, c10, a11, l11, c11, a12, l12, c12, a13, l13, c13, n14, h15 =>
  letJ (fun (b16 : Bool) =>
  (ifK b16 (F8.J8 call lf ro (F8.L6 call lf ro n) a10 l10 c10 a11 l11 c11 a12 l12 c12 a13 l13 c13 n14 h15) (F8.J12 call lf ro a12 l12 c12 a13 l13 c13 h15))) fun j17 =>
  ifK (decide (n14 < (l10 : Int))) (j17 (decide (n14 < (l11 : Int)))) (j17 false)

noncomputable def F8.P6 (kb : (Option Addr) → Nat → Nat → (Option Addr) → Nat → Nat → (Option Addr) → Nat → Nat → (Option Addr) → Nat → Nat → Int → Heap → Out) (e : Env) (h : Heap) : Out :=
  getK (e.get 0) fun w0 =>
  sliceK w0 fun a507 l507 c507 =>
  getK (e.get 1) fun w1 =>
  sliceK w1 fun a508 l508 c508 =>
  getK (e.get 5) fun w5 =>
  sliceK w5 fun a509 l509 c509 =>
  getK (e.get 6) fun w6 =>
  sliceK w6 fun a510 l510 c510 =>
  getK (e.get 7) fun w7 =>
  intK .i64 w7 fun n511 =>
  kb a507 l507 c507 a508 l508 c508 a509 l509 c509 a510 l510 c510 n511 h

noncomputable def F8.J3 (call : CT) (lf ro : Nat) (a7 : Option Addr) (l7 : Nat) (c7 : Nat) (a8 : Option Addr) (l8 : Nat) (c8 : Nat) (h9 : Heap) : Out :=
  F8.L6 call lf ro lf a7 l7 c7 a8 l8 c8 none 0 0 none 0 0 0 h9

noncomputable def F8.PJ3 (kb : (Option Addr) → Nat → Nat → (Option Addr) → Nat → Nat → Heap → Out) (e : Env) (h : Heap) : Out :=
  getK (e.get 0) fun w0 =>
  sliceK w0 fun a512 l512 c512 =>
  getK (e.get 1) fun w1 =>
  sliceK w1 fun a513 l513 c513 =>
  kb a512 l512 c512 a513 l513 c513 h

noncomputable def F8.t (call : CT) (lf ro : Nat) (ax0 : Option Addr) (lx0 : Nat) (cx0 : Nat) (ax1 : Option Addr) (lx1 : Nat) (cx1 : Nat) (h : Heap) : Out :=
  ifK (decide ((lx0 : Int) > 5)) (bindO (call ro 9 [] h) fun v4 h5 =>
  boolK v4 fun b6 =>
  Out.ok (.bool b6) h5) (F8.J3 call lf ro ax0 lx0 cx0 ax1 lx1 cx1 h)

noncomputable def F8.Ht (call : CT) (lf ro : Nat) (i : Nat) (e : Env) (h : Heap) : Out := ifK (i == 18) (F8.P18 (F8.L18 call lf ro lf) e h) (ifK (i == 6) (F8.P6 (F8.L6 call lf ro lf) e h) (.fail))
noncomputable def F8.Ut (call : CT) (lf ro : Nat) (i : Nat) : Option (Env → Heap → Out) := ifJ (i == 17) (some (F8.PJ17 (F8.J17 call lf ro))) (ifJ (i == 15) (some (F8.PJ15 (F8.J15 call lf ro))) (ifJ (i == 12) (some (F8.PJ12 (F8.J12 call lf ro))) (ifJ (i == 3) (some (F8.PJ3 (F8.J3 call lf ro))) (none))))

noncomputable def F8.H18 (call : CT) (lf ro : Nat) (kb18 : (Option Addr) → Nat → Nat → (Option Addr) → Nat → Nat → Int → Heap → Out) (i : Nat) (e : Env) (h : Heap) : Out := ifK (i == 18) (F8.P18 (F8.L18 call lf ro lf) e h) (ifK (i == 6) (F8.P6 (F8.L6 call lf ro lf) e h) (.fail))
noncomputable def F8.U18 (call : CT) (lf ro : Nat) (kb18 : (Option Addr) → Nat → Nat → (Option Addr) → Nat → Nat → Int → Heap → Out) (i : Nat) : Option (Env → Heap → Out) := ifJ (i == 20) (some (F8.PJ20 (F8.J20 call lf ro kb18))) (ifJ (i == 17) (some (F8.PJ17 (F8.J17 call lf ro))) (ifJ (i == 15) (some (F8.PJ15 (F8.J15 call lf ro))) (ifJ (i == 12) (some (F8.PJ12 (F8.J12 call lf ro))) (ifJ (i == 3) (some (F8.PJ3 (F8.J3 call lf ro))) (none)))))

noncomputable def F8.H6 (call : CT) (lf ro : Nat) (kb6 : (Option Addr) → Nat → Nat → (Option Addr) → Nat → Nat → (Option Addr) → Nat → Nat → (Option Addr) → Nat → Nat → Int → Heap → Out) (i : Nat) (e : Env) (h : Heap) : Out := ifK (i == 18) (F8.P18 (F8.L18 call lf ro lf) e h) (ifK (i == 6) (F8.P6 (F8.L6 call lf ro lf) e h) (.fail))
noncomputable def F8.U6 (call : CT) (lf ro : Nat) (kb6 : (Option Addr) → Nat → Nat → (Option Addr) → Nat → Nat → (Option Addr) → Nat → Nat → (Option Addr) → Nat → Nat → Int → Heap → Out) (i : Nat) : Option (Env → Heap → Out) := ifJ (i == 17) (some (F8.PJ17 (F8.J17 call lf ro))) (ifJ (i == 15) (some (F8.PJ15 (F8.J15 call lf ro))) (ifJ (i == 12) (some (F8.PJ12 (F8.J12 call lf ro))) (ifJ (i == 8) (some (F8.PJ8 (F8.J8 call lf ro kb6))) (ifJ (i == 3) (some (F8.PJ3 (F8.J3 call lf ro))) (none)))))

noncomputable def F8.C18 (call : CT) (lf ro : Nat) : COut → Out := blockK 2 (seqH Tryd.prog call ro (F8.Ht call lf ro) (F8.Ut call lf ro) (sub (codeOf Tryd.f8) [true, true, true, true, true, true, true, true, true]) (endK Tryd.prog Tryd.f8))

noncomputable def F8.K18 (call : CT) (lf ro : Nat) : COut → Out := blockK 2 (seqK Tryd.prog call lf ro (sub (codeOf Tryd.f8) [true, true, true, true, true, true, true, true, true]) (endK Tryd.prog Tryd.f8))

noncomputable def F8.C6 (call : CT) (lf ro : Nat) : COut → Out := blockK 0 (seqH Tryd.prog call ro (F8.Ht call lf ro) (F8.Ut call lf ro) (sub (codeOf Tryd.f8) [true, true, true, true, true]) (endK Tryd.prog Tryd.f8))

noncomputable def F8.K6 (call : CT) (lf ro : Nat) : COut → Out := blockK 0 (seqK Tryd.prog call lf ro (sub (codeOf Tryd.f8) [true, true, true, true, true]) (endK Tryd.prog Tryd.f8))

noncomputable def F8.CJ17 (call : CT) (lf ro : Nat) : COut → Out := endK Tryd.prog Tryd.f8

noncomputable def F8.KJ17 (call : CT) (lf ro : Nat) : COut → Out := endK Tryd.prog Tryd.f8

noncomputable def F8.CJ15 (call : CT) (lf ro : Nat) : COut → Out := endK Tryd.prog Tryd.f8

noncomputable def F8.KJ15 (call : CT) (lf ro : Nat) : COut → Out := endK Tryd.prog Tryd.f8

noncomputable def F8.CJ12 (call : CT) (lf ro : Nat) : COut → Out := endK Tryd.prog Tryd.f8

noncomputable def F8.KJ12 (call : CT) (lf ro : Nat) : COut → Out := endK Tryd.prog Tryd.f8

noncomputable def F8.CJ3 (call : CT) (lf ro : Nat) : COut → Out := endK Tryd.prog Tryd.f8

noncomputable def F8.KJ3 (call : CT) (lf ro : Nat) : COut → Out := endK Tryd.prog Tryd.f8

noncomputable def F8.CJ8 (call : CT) (lf ro : Nat) (kb6 : (Option Addr) → Nat → Nat → (Option Addr) → Nat → Nat → (Option Addr) → Nat → Nat → (Option Addr) → Nat → Nat → Int → Heap → Out) : COut → Out := outK (F8.P6 kb6) (fun i e h => F8.C6 call lf ro (.exit i e h)) (fun e h => F8.C6 call lf ro (.ret e h))

noncomputable def F8.KJ8 (call : CT) (lf ro : Nat) (kb6 : (Option Addr) → Nat → Nat → (Option Addr) → Nat → Nat → (Option Addr) → Nat → Nat → (Option Addr) → Nat → Nat → Int → Heap → Out) : COut → Out := outK (F8.P6 kb6) (fun i e h => F8.C6 call lf ro (.exit i e h)) (fun e h => F8.C6 call lf ro (.ret e h))

noncomputable def F8.CJ20 (call : CT) (lf ro : Nat) (kb18 : (Option Addr) → Nat → Nat → (Option Addr) → Nat → Nat → Int → Heap → Out) : COut → Out := outK (F8.P18 kb18) (fun i e h => F8.C18 call lf ro (.exit i e h)) (fun e h => F8.C18 call lf ro (.ret e h))

noncomputable def F8.KJ20 (call : CT) (lf ro : Nat) (kb18 : (Option Addr) → Nat → Nat → (Option Addr) → Nat → Nat → Int → Heap → Out) : COut → Out := outK (F8.P18 kb18) (fun i e h => F8.C18 call lf ro (.exit i e h)) (fun e h => F8.C18 call lf ro (.ret e h))

theorem F8.RJ8 (call : CT) (lf ro : Nat) (kb6 : (Option Addr) → Nat → Nat → (Option Addr) → Nat → Nat → (Option Addr) → Nat → Nat → (Option Addr) → Nat → Nat → Int → Heap → Out) (f : Nat → Option Value) (a18 : Option Addr) (l18 : Nat) (c18 : Nat) (a19 : Option Addr) (l19 : Nat) (c19 : Nat) (a20 : Option Addr) (l20 : Nat) (c20 : Nat) (a21 : Option Addr) (l21 : Nat) (c21 : Nat) (n22 : Int) (h23 : Heap) :
    execH Tryd.prog call ro (F8.H6 call lf ro kb6) (F8.U6 call lf ro kb6) (sub (codeOf Tryd.f8) [true, true, true, true, false, true, false, false, true]) (EF 98 (updF (updF (updF (updF (updF f 0 (some (.slice a18 l18 c18))) 1 (some (.slice a19 l19 c19))) 5 (some (.slice a20 l20 c20))) 6 (some (.slice a21 l21 c21))) 7 (some (.int .i64 n22)))) h23 (F8.CJ8 call lf ro kb6) = F8.J8 call lf ro kb6 a18 l18 c18 a19 l19 c19 a20 l20 c20 a21 l21 c21 n22 h23 := by kernel_rfl

theorem F8.CKJ8 (call : CT) (lf ro : Nat) (kb6 : (Option Addr) → Nat → Nat → (Option Addr) → Nat → Nat → (Option Addr) → Nat → Nat → (Option Addr) → Nat → Nat → Int → Heap → Out) : KLe 98 (F8.CJ8 call lf ro kb6) (F8.KJ8 call lf ro kb6) :=
  (KLe.refl _)

theorem F8.BJ8 (call : CT) (lf ro : Nat) (kb6 : (Option Addr) → Nat → Nat → (Option Addr) → Nat → Nat → (Option Addr) → Nat → Nat → (Option Addr) → Nat → Nat → Int → Heap → Out) : ∀ e h, Shaped 98 e → LeO (F8.PJ8 (F8.J8 call lf ro kb6) e h) (execK Tryd.prog call lf ro (sub (codeOf Tryd.f8) [true, true, true, true, false, true, false, false, true]) e h (F8.KJ8 call lf ro kb6)) := by
    rintro e h ⟨f, rfl⟩
    unfold F8.PJ8
    refine getK_le fun w0 g0 => ?_
    rw [EF_get (by decide)] at g0
    refine sliceK_le fun a188 l188 c188 z514 => ?_
    subst z514
    refine getK_le fun w1 g1 => ?_
    rw [EF_get (by decide)] at g1
    refine sliceK_le fun a189 l189 c189 z515 => ?_
    subst z515
    refine getK_le fun w5 g5 => ?_
    rw [EF_get (by decide)] at g5
    refine sliceK_le fun a190 l190 c190 z516 => ?_
    subst z516
    refine getK_le fun w6 g6 => ?_
    rw [EF_get (by decide)] at g6
    refine sliceK_le fun a191 l191 c191 z517 => ?_
    subst z517
    refine getK_le fun w7 g7 => ?_
    rw [EF_get (by decide)] at g7
    refine intK_le fun n192 z518 => ?_
    subst z518
    have hr := F8.RJ8 call lf ro kb6 f a188 l188 c188 a189 l189 c189 a190 l190 c190 a191 l191 c191 n192 h
    rw [updF_same g0, updF_same g1, updF_same g5, updF_same g6, updF_same g7] at hr
    exact cut_le (H := (F8.H6 call lf ro kb6)) (J := (F8.U6 call lf ro kb6)) (F8.CKJ8 call lf ro kb6) (hd_free rfl) hr

theorem F8.RJ20 (call : CT) (lf ro : Nat) (kb18 : (Option Addr) → Nat → Nat → (Option Addr) → Nat → Nat → Int → Heap → Out) (f : Nat → Option Value) (a236 : Option Addr) (l236 : Nat) (c236 : Nat) (a237 : Option Addr) (l237 : Nat) (c237 : Nat) (n238 : Int) (h239 : Heap) :
    execH Tryd.prog call ro (F8.H18 call lf ro kb18) (F8.U18 call lf ro kb18) (sub (codeOf Tryd.f8) [true, true, true, true, true, true, true, true, false, true, false, false, true]) (EF 98 (updF (updF (updF f 6 (some (.slice a236 l236 c236))) 10 (some (.slice a237 l237 c237))) 12 (some (.int .i64 n238)))) h239 (F8.CJ20 call lf ro kb18) = F8.J20 call lf ro kb18 a236 l236 c236 a237 l237 c237 n238 h239 := by kernel_rfl

theorem F8.CKJ20 (call : CT) (lf ro : Nat) (kb18 : (Option Addr) → Nat → Nat → (Option Addr) → Nat → Nat → Int → Heap → Out) : KLe 98 (F8.CJ20 call lf ro kb18) (F8.KJ20 call lf ro kb18) :=
  (KLe.refl _)

theorem F8.BJ20 (call : CT) (lf ro : Nat) (kb18 : (Option Addr) → Nat → Nat → (Option Addr) → Nat → Nat → Int → Heap → Out) : ∀ e h, Shaped 98 e → LeO (F8.PJ20 (F8.J20 call lf ro kb18) e h) (execK Tryd.prog call lf ro (sub (codeOf Tryd.f8) [true, true, true, true, true, true, true, true, false, true, false, false, true]) e h (F8.KJ20 call lf ro kb18)) := by
    rintro e h ⟨f, rfl⟩
    unfold F8.PJ20
    refine getK_le fun w6 g6 => ?_
    rw [EF_get (by decide)] at g6
    refine sliceK_le fun a488 l488 c488 z524 => ?_
    subst z524
    refine getK_le fun w10 g10 => ?_
    rw [EF_get (by decide)] at g10
    refine sliceK_le fun a489 l489 c489 z525 => ?_
    subst z525
    refine getK_le fun w12 g12 => ?_
    rw [EF_get (by decide)] at g12
    refine intK_le fun n490 z526 => ?_
    subst z526
    have hr := F8.RJ20 call lf ro kb18 f a488 l488 c488 a489 l489 c489 n490 h
    rw [updF_same g6, updF_same g10, updF_same g12] at hr
    exact cut_le (H := (F8.H18 call lf ro kb18)) (J := (F8.U18 call lf ro kb18)) (F8.CKJ20 call lf ro kb18) (hd_free rfl) hr

theorem F8.R18 (call : CT) (lf ro : Nat) (n : Nat) (f : Nat → Option Value) (a232 : Option Addr) (l232 : Nat) (c232 : Nat) (a233 : Option Addr) (l233 : Nat) (c233 : Nat) (n234 : Int) (h235 : Heap) :
    execH Tryd.prog call ro (F8.H18 call lf ro (F8.L18 call lf ro n)) (F8.U18 call lf ro (F8.L18 call lf ro n)) (sub (codeOf Tryd.f8) [true, true, true, true, true, true, true, true, false, true, false, false]) (EF 98 (updF (updF (updF f 6 (some (.slice a232 l232 c232))) 10 (some (.slice a233 l233 c233))) 12 (some (.int .i64 n234)))) h235 (outK (F8.P18 (F8.L18 call lf ro n)) (fun i e h => F8.C18 call lf ro (.exit i e h)) (fun e h => F8.C18 call lf ro (.ret e h))) = F8.L18 call lf ro (n + 1) a232 l232 c232 a233 l233 c233 n234 h235 := by kernel_rfl

theorem F8.CK18 (call : CT) (lf ro : Nat) : KLe 98 (F8.C18 call lf ro) (F8.K18 call lf ro) :=
  (KLe.block (KLe.seq (H := (F8.Ht call lf ro)) (J := (F8.Ut call lf ro)) (KLe.refl _) (hd_free rfl)))

theorem F8.B18 (call : CT) (lf ro : Nat) : ∀ n e h, Shaped 98 e → LeO (F8.P18 (F8.L18 call lf ro n) e h) (loopK (execK Tryd.prog call lf ro (sub (codeOf Tryd.f8) [true, true, true, true, true, true, true, true, false, true, false, false])) n e h (F8.K18 call lf ro)) := by
  refine loop_le (fun e h k k' hs hk => execK_mono _ e h k k' hs hk) (kb := fun n => F8.P18 (F8.L18 call lf ro n)) (kx := fun i e h => F8.C18 call lf ro (.exit i e h)) (kr := fun e h => F8.C18 call lf ro (.ret e h)) ?_ ?_ (fun i e h hs => (F8.CK18 call lf ro).exit i e h hs) (fun e h hs => (F8.CK18 call lf ro).ret e h hs)
  · rintro e h ⟨f, rfl⟩
    unfold F8.P18
    refine getK_le fun w6 g6 => ?_
    rw [EF_get (by decide)] at g6
    refine sliceK_le fun a497 l497 c497 z530 => ?_
    subst z530
    refine getK_le fun w10 g10 => ?_
    rw [EF_get (by decide)] at g10
    refine sliceK_le fun a498 l498 c498 z531 => ?_
    subst z531
    refine getK_le fun w12 g12 => ?_
    rw [EF_get (by decide)] at g12
    refine intK_le fun n499 z532 => ?_
    subst z532
    exact LeO.refl _
  · rintro n e h ⟨f, rfl⟩
    unfold F8.P18
    refine getK_le fun w6 g6 => ?_
    rw [EF_get (by decide)] at g6
    refine sliceK_le fun a497 l497 c497 z533 => ?_
    subst z533
    refine getK_le fun w10 g10 => ?_
    rw [EF_get (by decide)] at g10
    refine sliceK_le fun a498 l498 c498 z534 => ?_
    subst z534
    refine getK_le fun w12 g12 => ?_
    rw [EF_get (by decide)] at g12
    refine intK_le fun n499 z535 => ?_
    subst z535
    have hr := F8.R18 call lf ro n f a497 l497 c497 a498 l498 c498 n499 h
    rw [updF_same g6, updF_same g10, updF_same g12] at hr
    exact round_le (H := (F8.H18 call lf ro (F8.L18 call lf ro n))) (J := (F8.U18 call lf ro (F8.L18 call lf ro n))) ⟨(hd_free rfl), (fun e h hs => F8.BJ20 call lf ro (F8.L18 call lf ro n) e h hs)⟩ hr

theorem F8.RJ17 (call : CT) (lf ro : Nat) (f : Nat → Option Value) (a229 : Option Addr) (l229 : Nat) (c229 : Nat) (a230 : Option Addr) (l230 : Nat) (c230 : Nat) (h231 : Heap) :
    execH Tryd.prog call ro (F8.Ht call lf ro) (F8.Ut call lf ro) (sub (codeOf Tryd.f8) [true, true, true, true, true, true, true, true]) (EF 98 (updF (updF f 6 (some (.slice a229 l229 c229))) 10 (some (.slice a230 l230 c230)))) h231 (F8.CJ17 call lf ro) = F8.J17 call lf ro a229 l229 c229 a230 l230 c230 h231 := by kernel_rfl

theorem F8.CKJ17 (call : CT) (lf ro : Nat) : KLe 98 (F8.CJ17 call lf ro) (F8.KJ17 call lf ro) :=
  (KLe.refl _)

theorem F8.BJ17 (call : CT) (lf ro : Nat) : ∀ e h, Shaped 98 e → LeO (F8.PJ17 (F8.J17 call lf ro) e h) (execK Tryd.prog call lf ro (sub (codeOf Tryd.f8) [true, true, true, true, true, true, true, true]) e h (F8.KJ17 call lf ro)) := by
    rintro e h ⟨f, rfl⟩
    unfold F8.PJ17
    refine getK_le fun w6 g6 => ?_
    rw [EF_get (by decide)] at g6
    refine sliceK_le fun a500 l500 c500 z536 => ?_
    subst z536
    refine getK_le fun w10 g10 => ?_
    rw [EF_get (by decide)] at g10
    refine sliceK_le fun a501 l501 c501 z537 => ?_
    subst z537
    have hr := F8.RJ17 call lf ro f a500 l500 c500 a501 l501 c501 h
    rw [updF_same g6, updF_same g10] at hr
    exact cut_le (H := (F8.Ht call lf ro)) (J := (F8.Ut call lf ro)) (F8.CKJ17 call lf ro) ⟨⟨(hd_free rfl), (fun e h hs => F8.B18 call lf ro  lf e h hs)⟩, (hd_free rfl)⟩ hr

theorem F8.RJ15 (call : CT) (lf ro : Nat) (f : Nat → Option Value) (a223 : Option Addr) (l223 : Nat) (c223 : Nat) (a224 : Option Addr) (l224 : Nat) (c224 : Nat) (n225 : Int) (h226 : Heap) :
    execH Tryd.prog call ro (F8.Ht call lf ro) (F8.Ut call lf ro) (sub (codeOf Tryd.f8) [true, true, true, true, true, true, true]) (EF 98 (updF (updF (updF f 6 (some (.slice a223 l223 c223))) 10 (some (.slice a224 l224 c224))) 11 (some (.int .i64 n225)))) h226 (F8.CJ15 call lf ro) = F8.J15 call lf ro a223 l223 c223 a224 l224 c224 n225 h226 := by kernel_rfl

theorem F8.CKJ15 (call : CT) (lf ro : Nat) : KLe 98 (F8.CJ15 call lf ro) (F8.KJ15 call lf ro) :=
  (KLe.refl _)

theorem F8.BJ15 (call : CT) (lf ro : Nat) : ∀ e h, Shaped 98 e → LeO (F8.PJ15 (F8.J15 call lf ro) e h) (execK Tryd.prog call lf ro (sub (codeOf Tryd.f8) [true, true, true, true, true, true, true]) e h (F8.KJ15 call lf ro)) := by
    rintro e h ⟨f, rfl⟩
    unfold F8.PJ15
    refine getK_le fun w6 g6 => ?_
    rw [EF_get (by decide)] at g6
    refine sliceK_le fun a502 l502 c502 z540 => ?_
    subst z540
    refine getK_le fun w10 g10 => ?_
    rw [EF_get (by decide)] at g10
    refine sliceK_le fun a503 l503 c503 z541 => ?_
    subst z541
    refine getK_le fun w11 g11 => ?_
    rw [EF_get (by decide)] at g11
    refine intK_le fun n504 z542 => ?_
    subst z542
    have hr := F8.RJ15 call lf ro f a502 l502 c502 a503 l503 c503 n504 h
    rw [updF_same g6, updF_same g10, updF_same g11] at hr
    exact cut_le (H := (F8.Ht call lf ro)) (J := (F8.Ut call lf ro)) (F8.CKJ15 call lf ro) ⟨(hd_free rfl), (fun e h hs => F8.BJ17 call lf ro  e h hs)⟩ hr

theorem F8.RJ12 (call : CT) (lf ro : Nat) (f : Nat → Option Value) (a193 : Option Addr) (l193 : Nat) (c193 : Nat) (a194 : Option Addr) (l194 : Nat) (c194 : Nat) (h195 : Heap) :
    execH Tryd.prog call ro (F8.Ht call lf ro) (F8.Ut call lf ro) (sub (codeOf Tryd.f8) [true, true, true, true, true]) (EF 98 (updF (updF f 5 (some (.slice a193 l193 c193))) 6 (some (.slice a194 l194 c194)))) h195 (F8.CJ12 call lf ro) = F8.J12 call lf ro a193 l193 c193 a194 l194 c194 h195 := by kernel_rfl

theorem F8.CKJ12 (call : CT) (lf ro : Nat) : KLe 98 (F8.CJ12 call lf ro) (F8.KJ12 call lf ro) :=
  (KLe.refl _)

theorem F8.BJ12 (call : CT) (lf ro : Nat) : ∀ e h, Shaped 98 e → LeO (F8.PJ12 (F8.J12 call lf ro) e h) (execK Tryd.prog call lf ro (sub (codeOf Tryd.f8) [true, true, true, true, true]) e h (F8.KJ12 call lf ro)) := by
    rintro e h ⟨f, rfl⟩
    unfold F8.PJ12
    refine getK_le fun w5 g5 => ?_
    rw [EF_get (by decide)] at g5
    refine sliceK_le fun a505 l505 c505 z546 => ?_
    subst z546
    refine getK_le fun w6 g6 => ?_
    rw [EF_get (by decide)] at g6
    refine sliceK_le fun a506 l506 c506 z547 => ?_
    subst z547
    have hr := F8.RJ12 call lf ro f a505 l505 c505 a506 l506 c506 h
    rw [updF_same g5, updF_same g6] at hr
    exact cut_le (H := (F8.Ht call lf ro)) (J := (F8.Ut call lf ro)) (F8.CKJ12 call lf ro) ⟨(hd_free rfl), ⟨(hd_free rfl), (fun e h hs => F8.BJ15 call lf ro  e h hs)⟩⟩ hr

theorem F8.R6 (call : CT) (lf ro : Nat) (n : Nat) (f : Nat → Option Value) (a10 : Option Addr) (l10 : Nat) (c10 : Nat) (a11 : Option Addr) (l11 : Nat) (c11 : Nat) (a12 : Option Addr) (l12 : Nat) (c12 : Nat) (a13 : Option Addr) (l13 : Nat) (c13 : Nat) (n14 : Int) (h15 : Heap) :
    execH Tryd.prog call ro (F8.H6 call lf ro (F8.L6 call lf ro n)) (F8.U6 call lf ro (F8.L6 call lf ro n)) (sub (codeOf Tryd.f8) [true, true, true, true, false, true, false, false]) (EF 98 (updF (updF (updF (updF (updF f 0 (some (.slice a10 l10 c10))) 1 (some (.slice a11 l11 c11))) 5 (some (.slice a12 l12 c12))) 6 (some (.slice a13 l13 c13))) 7 (some (.int .i64 n14)))) h15 (outK (F8.P6 (F8.L6 call lf ro n)) (fun i e h => F8.C6 call lf ro (.exit i e h)) (fun e h => F8.C6 call lf ro (.ret e h))) = F8.L6 call lf ro (n + 1) a10 l10 c10 a11 l11 c11 a12 l12 c12 a13 l13 c13 n14 h15 := by kernel_rfl

theorem F8.CK6 (call : CT) (lf ro : Nat) : KLe 98 (F8.C6 call lf ro) (F8.K6 call lf ro) :=
  (KLe.block (KLe.seq (H := (F8.Ht call lf ro)) (J := (F8.Ut call lf ro)) (KLe.refl _) (fun e h hs => F8.BJ12 call lf ro  e h hs)))

theorem F8.B6 (call : CT) (lf ro : Nat) : ∀ n e h, Shaped 98 e → LeO (F8.P6 (F8.L6 call lf ro n) e h) (loopK (execK Tryd.prog call lf ro (sub (codeOf Tryd.f8) [true, true, true, true, false, true, false, false])) n e h (F8.K6 call lf ro)) := by
  refine loop_le (fun e h k k' hs hk => execK_mono _ e h k k' hs hk) (kb := fun n => F8.P6 (F8.L6 call lf ro n)) (kx := fun i e h => F8.C6 call lf ro (.exit i e h)) (kr := fun e h => F8.C6 call lf ro (.ret e h)) ?_ ?_ (fun i e h hs => (F8.CK6 call lf ro).exit i e h hs) (fun e h hs => (F8.CK6 call lf ro).ret e h hs)
  · rintro e h ⟨f, rfl⟩
    unfold F8.P6
    refine getK_le fun w0 g0 => ?_
    rw [EF_get (by decide)] at g0
    refine sliceK_le fun a507 l507 c507 z550 => ?_
    subst z550
    refine getK_le fun w1 g1 => ?_
    rw [EF_get (by decide)] at g1
    refine sliceK_le fun a508 l508 c508 z551 => ?_
    subst z551
    refine getK_le fun w5 g5 => ?_
    rw [EF_get (by decide)] at g5
    refine sliceK_le fun a509 l509 c509 z552 => ?_
    subst z552
    refine getK_le fun w6 g6 => ?_
    rw [EF_get (by decide)] at g6
    refine sliceK_le fun a510 l510 c510 z553 => ?_
    subst z553
    refine getK_le fun w7 g7 => ?_
    rw [EF_get (by decide)] at g7
    refine intK_le fun n511 z554 => ?_
    subst z554
    exact LeO.refl _
  · rintro n e h ⟨f, rfl⟩
    unfold F8.P6
    refine getK_le fun w0 g0 => ?_
    rw [EF_get (by decide)] at g0
    refine sliceK_le fun a507 l507 c507 z555 => ?_
    subst z555
    refine getK_le fun w1 g1 => ?_
    rw [EF_get (by decide)] at g1
    refine sliceK_le fun a508 l508 c508 z556 => ?_
    subst z556
    refine getK_le fun w5 g5 => ?_
    rw [EF_get (by decide)] at g5
    refine sliceK_le fun a509 l509 c509 z557 => ?_
    subst z557
    refine getK_le fun w6 g6 => ?_
    rw [EF_get (by decide)] at g6
    refine sliceK_le fun a510 l510 c510 z558 => ?_
    subst z558
    refine getK_le fun w7 g7 => ?_
    rw [EF_get (by decide)] at g7
    refine intK_le fun n511 z559 => ?_
    subst z559
    have hr := F8.R6 call lf ro n f a507 l507 c507 a508 l508 c508 a509 l509 c509 a510 l510 c510 n511 h
    rw [updF_same g0, updF_same g1, updF_same g5, updF_same g6, updF_same g7] at hr
    exact round_le (H := (F8.H6 call lf ro (F8.L6 call lf ro n))) (J := (F8.U6 call lf ro (F8.L6 call lf ro n))) ⟨(hd_free rfl), (fun e h hs => F8.BJ8 call lf ro (F8.L6 call lf ro n) e h hs)⟩ hr

theorem F8.RJ3 (call : CT) (lf ro : Nat) (f : Nat → Option Value) (a7 : Option Addr) (l7 : Nat) (c7 : Nat) (a8 : Option Addr) (l8 : Nat) (c8 : Nat) (h9 : Heap) :
    execH Tryd.prog call ro (F8.Ht call lf ro) (F8.Ut call lf ro) (sub (codeOf Tryd.f8) [true, true]) (EF 98 (updF (updF f 0 (some (.slice a7 l7 c7))) 1 (some (.slice a8 l8 c8)))) h9 (F8.CJ3 call lf ro) = F8.J3 call lf ro a7 l7 c7 a8 l8 c8 h9 := by kernel_rfl

theorem F8.CKJ3 (call : CT) (lf ro : Nat) : KLe 98 (F8.CJ3 call lf ro) (F8.KJ3 call lf ro) :=
  (KLe.refl _)

theorem F8.BJ3 (call : CT) (lf ro : Nat) : ∀ e h, Shaped 98 e → LeO (F8.PJ3 (F8.J3 call lf ro) e h) (execK Tryd.prog call lf ro (sub (codeOf Tryd.f8) [true, true]) e h (F8.KJ3 call lf ro)) := by
    rintro e h ⟨f, rfl⟩
    unfold F8.PJ3
    refine getK_le fun w0 g0 => ?_
    rw [EF_get (by decide)] at g0
    refine sliceK_le fun a512 l512 c512 z560 => ?_
    subst z560
    refine getK_le fun w1 g1 => ?_
    rw [EF_get (by decide)] at g1
    refine sliceK_le fun a513 l513 c513 z561 => ?_
    subst z561
    have hr := F8.RJ3 call lf ro f a512 l512 c512 a513 l513 c513 h
    rw [updF_same g0, updF_same g1] at hr
    exact cut_le (H := (F8.Ht call lf ro)) (J := (F8.Ut call lf ro)) (F8.CKJ3 call lf ro) ⟨(hd_free rfl), ⟨(hd_free rfl), ⟨⟨(hd_free rfl), (fun e h hs => F8.B6 call lf ro  lf e h hs)⟩, (fun e h hs => F8.BJ12 call lf ro  e h hs)⟩⟩⟩ hr

theorem F8.le (call : CT) (lf ro : Nat) (ax0 : Option Addr) (lx0 : Nat) (cx0 : Nat) (ax1 : Option Addr) (lx1 : Nat) (cx1 : Nat) (h : Heap) : LeO (F8.t call lf ro ax0 lx0 cx0 ax1 lx1 cx1 h) (bodyK Tryd.prog call lf ro Tryd.f8 [.slice ax0 lx0 cx0, .slice ax1 lx1 cx1] h) :=
  body_le (c := codeOf Tryd.f8) (H := F8.Ht call lf ro) (J := F8.Ut call lf ro) rfl (Nat.le_of_ble_eq_true rfl) ⟨(hd_free rfl), ⟨(hd_free rfl), (fun e h hs => F8.BJ3 call lf ro  e h hs)⟩⟩ (by kernel_rfl)

end Go.Proofs.YtgpnjdldpehidaaDoor
