/-
  Functions that the examples reach, as the interpreter runs them, written out; no statement of the seat is proved in this file.
-/
import Derived.Test.YtfadfpcelhdfbaaDoorProg
import Derived.KernelRfl
import Derived.Test.YtfadfpcelhdfbaaDoorAbsG
open Go Go.Abs Go.Proofs
set_option maxRecDepth 100000
set_option linter.unusedVariables false
namespace Go.Proofs.YtfadfpcelhdfbaaDoor

/-! ### barscan/barscanlaw27.alive: function 11 -/

noncomputable def F11.J9 (call : CT) (lf ro : Nat) (a149 : Option Addr) (l149 : Nat) (c149 : Nat) (a150 : Option Addr) (l150 : Nat) (c150 : Nat) (a151 : Option Addr) (l151 : Nat) (c151 : Nat) (a152 : Option Addr) (l152 : Nat) (c152 : Nat) (a153 : Option Addr) (l153 : Nat) (c153 : Nat) (n154 : Int) (h155 : Heap) : Out :=
  letJ (fun (b181 : Bool) (h182 : Heap) =>
  (Out.ok (.bool b181) h182)) fun j183 =>
  bindO (call ro 23 [.string (⟨#[48, 48, 48, 49, 48, 49, 49, 49, 48, 48, 48, 48, 48, 49, 48]⟩ : ByteArray)] h155) fun v184 h185 =>
  sliceK v184 fun a186 l186 c186 =>
  bindO (call ro 15 [.slice a149 l149 c149, .slice a186 l186 c186] h185) fun v187 h188 =>
  boolK v187 fun b189 =>
  ifK b189 (bindO (call ro 23 [.string (⟨#[49, 49, 49, 49, 48, 48, 48, 49, 49, 49, 49, 48, 49]⟩ : ByteArray)] h188) fun v190 h191 =>
  sliceK v190 fun a192 l192 c192 =>
  bindO (call ro 15 [.slice a150 l150 c150, .slice a192 l192 c192] h191) fun v193 h194 =>
  boolK v193 fun b195 =>
  ifK b195 (bindO (conv Tryd.prog ro 22 9 (.slice a151 l151 c151) h194) fun v196 h197 =>
  strK v196 fun s198 =>
  ifK (s198.toList == (⟨#[65, 97]⟩ : ByteArray).toList) (pushJ h197 1 [.int .i64 1, .int .i64 62] fun h199 =>
  bindO (call ro 22 [.slice a152 l152 c152, .slice (some ⟨h197.next, 0, none⟩) 2 2] h199) fun v200 h201 =>
  boolK v200 fun b202 =>
  ifK b202 (bindO (call ro 23 [.string (⟨#[48, 48, 48, 48, 48, 49, 49, 49, 49, 49]⟩ : ByteArray)] h201) fun v203 h204 =>
  sliceK v203 fun a205 l205 c205 =>
  bindO (call ro 15 [.slice a153 l153 c153, .slice a205 l205 c205] h204) fun v206 h207 =>
  boolK v206 fun b208 =>
  ifK b208 (j183 (n154 == 5) h207) (j183 false h207)) (j183 false h201)) (j183 false h197)) (j183 false h194)) (j183 false h188)

noncomputable def F11.PJ9 (kb : (Option Addr) → Nat → Nat → (Option Addr) → Nat → Nat → (Option Addr) → Nat → Nat → (Option Addr) → Nat → Nat → (Option Addr) → Nat → Nat → Int → Heap → Out) (e : Env) (h : Heap) : Out :=
  getK (e.get 1) fun w1 =>
  sliceK w1 fun a209 l209 c209 =>
  getK (e.get 3) fun w3 =>
  sliceK w3 fun a210 l210 c210 =>
  getK (e.get 5) fun w5 =>
  sliceK w5 fun a211 l211 c211 =>
  getK (e.get 7) fun w7 =>
  sliceK w7 fun a212 l212 c212 =>
  getK (e.get 9) fun w9 =>
  sliceK w9 fun a213 l213 c213 =>
  getK (e.get 11) fun w11 =>
  intK .i64 w11 fun n214 =>
  kb a209 l209 c209 a210 l210 c210 a211 l211 c211 a212 l212 c212 a213 l213 c213 n214 h

noncomputable def F11.t (call : CT) (lf ro : Nat) (h : Heap) : Out :=
  pushJ h 1 [.int .u8 65, .int .u8 97] fun h14 =>
  bindO (conv Tryd.prog ro 22 22 (.slice (some ⟨h.next, 0, none⟩) 2 2) h14) fun v15 h16 =>
  sliceK v15 fun a17 l17 c17 =>
  bindO (call ro 12 [.slice a17 l17 c17] h16) fun v18 h19 =>
  tupK v18 fun q20 =>
  consK q20 fun x21 q22 =>
  sliceK x21 fun a23 l23 c23 =>
  consK q22 fun x24 q25 =>
  intK .i64 x24 fun n26 =>
  nilK q25 <|
  pushJ h19 1 [.int .u8 49, .int .u8 46] fun h40 =>
  bindO (conv Tryd.prog ro 22 22 (.slice (some ⟨h19.next, 0, none⟩) 2 2) h40) fun v41 h42 =>
  sliceK v41 fun a43 l43 c43 =>
  bindO (call ro 12 [.slice a43 l43 c43] h42) fun v44 h45 =>
  tupK v44 fun q46 =>
  consK q46 fun x47 q48 =>
  sliceK x47 fun a49 l49 c49 =>
  consK q48 fun x50 q51 =>
  intK .i64 x50 fun n52 =>
  nilK q51 <|
  bindO (call ro 23 [.string (⟨#[48, 48, 48, 49, 48, 49, 49, 49, 48, 48, 48, 48, 48, 49, 48, 49, 49, 49, 49, 49]⟩ : ByteArray)] h45) fun v65 h66 =>
  sliceK v65 fun a67 l67 c67 =>
  bindO (call ro 16 [.slice a67 l67 c67] h66) fun v68 h69 =>
  tupK v68 fun q70 =>
  consK q70 fun x71 q72 =>
  sliceK x71 fun a73 l73 c73 =>
  consK q72 fun x74 q75 =>
  intK .i64 x74 fun n76 =>
  nilK q75 <|
  bindO (call ro 23 [.string (⟨#[48, 48, 48, 48, 48, 49]⟩ : ByteArray)] h69) fun v89 h90 =>
  sliceK v89 fun a91 l91 c91 =>
  bindO (call ro 18 [.slice a91 l91 c91, .int .i64 6] h90) fun v92 h93 =>
  tupK v92 fun q94 =>
  consK q94 fun x95 q96 =>
  sliceK x95 fun a97 l97 c97 =>
  consK q96 fun x98 q99 =>
  intK .i64 x98 fun n100 =>
  nilK q99 <|
  pushJ h93 1 [.int .i64 1, .int .i64 62] fun h111 =>
  bindO (call ro 20 [.slice (some ⟨h93.next, 0, none⟩) 2 2, .int .i64 6] h111) fun v112 h113 =>
  tupK v112 fun q114 =>
  consK q114 fun x115 q116 =>
  sliceK x115 fun a117 l117 c117 =>
  consK q116 fun x118 q119 =>
  intK .i64 x118 fun n120 =>
  nilK q119 <|
  pushJ h113 1 [.int .u8 65] fun h134 =>
  bindO (conv Tryd.prog ro 22 22 (.slice (some ⟨h113.next, 0, none⟩) 1 1) h134) fun v135 h136 =>
  sliceK v135 fun a137 l137 c137 =>
  bindO (call ro 14 [.slice a137 l137 c137] h136) fun v138 h139 =>
  tupK v138 fun q140 =>
  consK q140 fun x141 q142 =>
  intK .i64 x141 fun n143 =>
  consK q142 fun x144 q145 =>
  intK .i64 x144 fun n146 =>
  nilK q145 <|
  letJ (fun (b147 : Bool) =>
  (ifK b147 (Out.ok (.bool false) h139) (F11.J9 call lf ro a23 l23 c23 a49 l49 c49 a73 l73 c73 a97 l97 c97 a117 l117 c117 n143 h139))) fun j148 =>
  ifK (n26 != 0) (j148 true) (ifK (n52 != 0) (j148 true) (ifK (n76 != 0) (j148 true) (ifK (n100 != 0) (j148 true) (ifK (n120 != 0) (j148 true) (j148 (n146 != 0))))))

noncomputable def F11.Ht (call : CT) (lf ro : Nat) (i : Nat) (e : Env) (h : Heap) : Out := .fail
noncomputable def F11.Ut (call : CT) (lf ro : Nat) (i : Nat) : Option (Env → Heap → Out) := ifJ (i == 9) (some (F11.PJ9 (F11.J9 call lf ro))) (none)

noncomputable def F11.CJ9 (call : CT) (lf ro : Nat) : COut → Out := endK Tryd.prog Tryd.f11

noncomputable def F11.KJ9 (call : CT) (lf ro : Nat) : COut → Out := endK Tryd.prog Tryd.f11

theorem F11.RJ9 (call : CT) (lf ro : Nat) (f : Nat → Option Value) (a149 : Option Addr) (l149 : Nat) (c149 : Nat) (a150 : Option Addr) (l150 : Nat) (c150 : Nat) (a151 : Option Addr) (l151 : Nat) (c151 : Nat) (a152 : Option Addr) (l152 : Nat) (c152 : Nat) (a153 : Option Addr) (l153 : Nat) (c153 : Nat) (n154 : Int) (h155 : Heap) :
    execH Tryd.prog call ro (F11.Ht call lf ro) (F11.Ut call lf ro) (sub (codeOf Tryd.f11) [true, true, true, true, true, true, true, true]) (EF 95 (updF (updF (updF (updF (updF (updF f 1 (some (.slice a149 l149 c149))) 3 (some (.slice a150 l150 c150))) 5 (some (.slice a151 l151 c151))) 7 (some (.slice a152 l152 c152))) 9 (some (.slice a153 l153 c153))) 11 (some (.int .i64 n154)))) h155 (F11.CJ9 call lf ro) = F11.J9 call lf ro a149 l149 c149 a150 l150 c150 a151 l151 c151 a152 l152 c152 a153 l153 c153 n154 h155 := by kernel_rfl

theorem F11.CKJ9 (call : CT) (lf ro : Nat) : KLe 95 (F11.CJ9 call lf ro) (F11.KJ9 call lf ro) :=
  (KLe.refl _)

theorem F11.BJ9 (call : CT) (lf ro : Nat) : ∀ e h, Shaped 95 e → LeO (F11.PJ9 (F11.J9 call lf ro) e h) (execK Tryd.prog call lf ro (sub (codeOf Tryd.f11) [true, true, true, true, true, true, true, true]) e h (F11.KJ9 call lf ro)) := by
    rintro e h ⟨f, rfl⟩
    unfold F11.PJ9
    refine getK_le fun w1 g1 => ?_
    rw [EF_get (by decide)] at g1
    refine sliceK_le fun a209 l209 c209 z215 => ?_
    subst z215
    refine getK_le fun w3 g3 => ?_
    rw [EF_get (by decide)] at g3
    refine sliceK_le fun a210 l210 c210 z216 => ?_
    subst z216
    refine getK_le fun w5 g5 => ?_
    rw [EF_get (by decide)] at g5
    refine sliceK_le fun a211 l211 c211 z217 => ?_
    subst z217
    refine getK_le fun w7 g7 => ?_
    rw [EF_get (by decide)] at g7
    refine sliceK_le fun a212 l212 c212 z218 => ?_
    subst z218
    refine getK_le fun w9 g9 => ?_
    rw [EF_get (by decide)] at g9
    refine sliceK_le fun a213 l213 c213 z219 => ?_
    subst z219
    refine getK_le fun w11 g11 => ?_
    rw [EF_get (by decide)] at g11
    refine intK_le fun n214 z220 => ?_
    subst z220
    have hr := F11.RJ9 call lf ro f a209 l209 c209 a210 l210 c210 a211 l211 c211 a212 l212 c212 a213 l213 c213 n214 h
    rw [updF_same g1, updF_same g3, updF_same g5, updF_same g7, updF_same g9, updF_same g11] at hr
    exact cut_le (H := (F11.Ht call lf ro)) (J := (F11.Ut call lf ro)) (F11.CKJ9 call lf ro) (hd_free rfl) hr

theorem F11.le (call : CT) (lf ro : Nat) (h : Heap) : LeO (F11.t call lf ro h) (bodyK Tryd.prog call lf ro Tryd.f11 [] h) :=
  body_le (c := codeOf Tryd.f11) (H := F11.Ht call lf ro) (J := F11.Ut call lf ro) rfl (Nat.le_of_ble_eq_true rfl) ⟨(hd_free rfl), ⟨(hd_free rfl), ⟨(hd_free rfl), ⟨(hd_free rfl), ⟨(hd_free rfl), ⟨(hd_free rfl), ⟨(hd_free rfl), ⟨(hd_free rfl), (fun e h hs => F11.BJ9 call lf ro  e h hs)⟩⟩⟩⟩⟩⟩⟩⟩ (by kernel_rfl)

/-! ### barscan/aztext.Encode: function 12 -/

noncomputable def F12.L12 (call : CT) (lf ro : Nat) (kb6 : (Option Addr) → Nat → Nat → Nat → Nat → (Option Addr) → Nat → Nat → Nat → Nat → Heap → Out) : Nat → (Option Addr) → Nat → Nat → Nat → Nat → (Option Addr) → Nat → Nat → Nat → Nat → Nat → Nat → Int → Int → Heap → Out
  | 0, _, _, _, _, _, _, _, _, _, _, _, _, _, _, _ => .fail
  | n + 1, a225, l225, c225, p226, o226, a227, l227, c227, p228, o228, p229, o229, n230, n231, h232 =>
  letJ ((bindO (loadO Tryd.prog 49 (.pointer (some ⟨p229, o229 + 3, none⟩)) h232) fun v692 h693 =>
  aggK v692 fun q694 =>
  consK q694 fun x695 q696 =>
  intK .i64 x695 fun n697 =>
  consK q696 fun x698 q699 =>
  intK .i64 x698 fun n700 =>
  nilK q699 <|
  bindO (storeO Tryd.prog ro 49 (.pointer (some ⟨p228, o228, none⟩)) (.agg #[.int .i64 n697, .int .i64 n700]) h693) fun v701 h702 =>
  bindO (loadO Tryd.prog 49 (.pointer (some ⟨p228, o228, none⟩)) h702) fun v712 h713 =>
  aggK v712 fun q714 =>
  consK q714 fun x715 q716 =>
  intK .i64 x715 fun n717 =>
  consK q716 fun x718 q719 =>
  intK .i64 x718 fun n720 =>
  nilK q719 <|
  pushJ h713 1 [.int .i64 0, .int .i64 0] fun h721 =>
  bindO (storeO Tryd.prog ro 49 (.pointer (some ⟨h713.next, 0, none⟩)) (.agg #[.int .i64 n717, .int .i64 n720]) h721) fun v722 h723 =>
  kb6 a225 l225 c225 p226 o226 a227 l227 c227 h713.next 0 h723)) fun j680 =>
  ifK (decide (n231 < n230)) (bindO (loadO Tryd.prog 3 (.pointer (some ⟨p228, o228 + 0, none⟩)) h232) fun v754 h755 =>
  intK .i64 v754 fun n756 =>
  bindO (idxO Tryd.prog 22 (.slice a225 l225 c225) (.int .i64 (IntKind.i64.wrap (n756 + (IntKind.i64.wrap (Int.tdiv n231 8))))) h755) fun v757 h758 =>
  bindO (loadO Tryd.prog 5 v757 h758) fun v759 h760 =>
  intK .u8 v759 fun n761 =>
  bindO (binO Tryd.prog .shr 5 false (.int .u8 n761) (.int .i64 (IntKind.i64.wrap (7 - (Int.tmod n231 8)))) h760) fun v762 h763 =>
  intK .u8 v762 fun n764 =>
  pushJ h763 1 [.bool ((bAnd .u8 n764 1) == 1)] fun h765 =>
  bindO (appO Tryd.prog ro 24 24 (.slice a227 l227 c227) (.slice (some ⟨h763.next, 0, none⟩) 1 1) h765) fun v766 h767 =>
  sliceK v766 fun a768 l768 c768 =>
  F12.L12 call lf ro kb6 n a225 l225 c225 p226 o226 a768 l768 c768 p228 o228 p229 o229 n230 (IntKind.i64.wrap (n231 + 1)) h767) (j680)
  termination_by structural x => x

noncomputable def F12.P12 (kb : (Option Addr) → Nat → Nat → Nat → Nat → (Option Addr) → Nat → Nat → Nat → Nat → Nat → Nat → Int → Int → Heap → Out) (e : Env) (h : Heap) : Out :=
  getK (e.get 0) fun w0 =>
  sliceK w0 fun a769 l769 c769 =>
  getK (e.get 4) fun w4 =>
  ptrK w4 fun p770 o770 =>
  getK (e.get 5) fun w5 =>
  sliceK w5 fun a771 l771 c771 =>
  getK (e.get 6) fun w6 =>
  ptrK w6 fun p772 o772 =>
  getK (e.get 8) fun w8 =>
  ptrK w8 fun p773 o773 =>
  getK (e.get 42) fun w42 =>
  intK .i64 w42 fun n774 =>
  getK (e.get 43) fun w43 =>
  intK .i64 w43 fun n775 =>
  kb a769 l769 c769 p770 o770 a771 l771 c771 p772 o772 p773 o773 n774 n775 h

noncomputable def F12.J7 (call : CT) (lf ro : Nat) (kb6 : (Option Addr) → Nat → Nat → Nat → Nat → (Option Addr) → Nat → Nat → Nat → Nat → Heap → Out) (a30 : Option Addr) (l30 : Nat) (c30 : Nat) (p31 : Nat) (o31 : Nat) (a32 : Option Addr) (l32 : Nat) (c32 : Nat) (p33 : Nat) (o33 : Nat) (h34 : Heap) : Out :=
  bindN (loadO Tryd.prog 46 (.pointer (some ⟨p31, o31, none⟩)) h34) fun v1200 h1201 =>
  bindN (loadO Tryd.prog 49 (.pointer (some ⟨p33, o33, none⟩)) h1201) fun v1202 h1203 =>
  aggK v1202 fun q1204 =>
  consK q1204 fun x1205 q1206 =>
  intK .i64 x1205 fun n1207 =>
  consK q1206 fun x1208 q1209 =>
  intK .i64 x1208 fun n1210 =>
  nilK q1209 <|
  bindN (call h1203.next 26 [v1200, .agg #[.int .i64 n1207, .int .i64 n1210]] h1203) fun v1211 h1212 =>
  sliceK v1211 fun a1213 l1213 c1213 =>
  bindN (loadO Tryd.prog 49 (.pointer (some ⟨p33, o33, none⟩)) h1212) fun v1214 h1215 =>
  aggK v1214 fun q1216 =>
  consK q1216 fun x1217 q1218 =>
  intK .i64 x1217 fun n1219 =>
  consK q1218 fun x1220 q1221 =>
  intK .i64 x1220 fun n1222 =>
  nilK q1221 <|
  bindN (call h1215.next 27 [.agg #[.int .i64 n1219, .int .i64 n1222]] h1215) fun v1223 h1224 =>
  sliceK v1223 fun a1225 l1225 c1225 =>
  bindN (loadO Tryd.prog 46 (.pointer (some ⟨p31, o31, none⟩)) h1224) fun v1226 h1227 =>
  bindN (loadO Tryd.prog 49 (.pointer (some ⟨p33, o33, none⟩)) h1227) fun v1228 h1229 =>
  aggK v1228 fun q1230 =>
  consK q1230 fun x1231 q1232 =>
  intK .i64 x1231 fun n1233 =>
  consK q1232 fun x1234 q1235 =>
  intK .i64 x1234 fun n1236 =>
  nilK q1235 <|
  bindO (call ro 28 [v1226, .agg #[.int .i64 n1233, .int .i64 n1236]] h1229) fun v1237 h1238 =>
  sliceK v1237 fun a1239 l1239 c1239 =>
  pushJ h1238 1 [.slice a1213 l1213 c1213, .slice a1225 l1225 c1225, .slice a1239 l1239 c1239] fun h1240 =>
  bindO (call ro 25 [.slice (some ⟨h1238.next, 0, none⟩) 3 3] h1240) fun v1241 h1242 =>
  sliceK v1241 fun a1243 l1243 c1243 =>
  bindO (call ro 29 [.slice a1243 l1243 c1243, .func (.func 30) #[] #[.pointer (some ⟨p31, o31, none⟩), .pointer (some ⟨p33, o33, none⟩)]] h1242) fun v1247 h1248 =>
  sliceK v1247 fun a1249 l1249 c1249 =>
  bindO (call ro 32 [.slice a1249 l1249 c1249, .func (.func 33) #[] #[]] h1248) fun v1271 h1272 =>
  aggK v1271 fun q1273 =>
  consK q1273 fun x1274 q1275 =>
  sliceK x1274 fun a1276 l1276 c1276 =>
  consK q1275 fun x1277 q1278 =>
  sliceK x1277 fun a1279 l1279 c1279 =>
  consK q1278 fun x1280 q1281 =>
  intK .i64 x1280 fun n1282 =>
  consK q1281 fun x1283 q1284 =>
  intK .i64 x1283 fun n1285 =>
  consK q1284 fun x1286 q1287 =>
  intK .i64 x1286 fun n1288 =>
  nilK q1287 <|
  pushJ h1272 1 [.slice none 0 0, .slice none 0 0, .int .i64 0, .int .i64 0, .int .i64 0] fun h1289 =>
  bindO (storeO Tryd.prog ro 53 (.pointer (some ⟨h1272.next, 0, none⟩)) (.agg #[.slice a1276 l1276 c1276, .slice a1279 l1279 c1279, .int .i64 n1282, .int .i64 n1285, .int .i64 n1288]) h1289) fun v1290 h1291 =>
  bindO (loadO Tryd.prog 53 (.pointer (some ⟨h1272.next, 0, none⟩)) h1291) fun v1316 h1317 =>
  aggK v1316 fun q1318 =>
  consK q1318 fun x1319 q1320 =>
  sliceK x1319 fun a1321 l1321 c1321 =>
  consK q1320 fun x1322 q1323 =>
  sliceK x1322 fun a1324 l1324 c1324 =>
  consK q1323 fun x1325 q1326 =>
  intK .i64 x1325 fun n1327 =>
  consK q1326 fun x1328 q1329 =>
  intK .i64 x1328 fun n1330 =>
  consK q1329 fun x1331 q1332 =>
  intK .i64 x1331 fun n1333 =>
  nilK q1332 <|
  bindO (call ro 35 [.agg #[.slice a1321 l1321 c1321, .slice a1324 l1324 c1324, .int .i64 n1327, .int .i64 n1330, .int .i64 n1333]] h1317) fun v1334 h1335 =>
  sliceK v1334 fun a1336 l1336 c1336 =>
  bindO (appO Tryd.prog ro 24 24 (.slice a32 l32 c32) (.slice a1336 l1336 c1336) h1335) fun v1337 h1338 =>
  sliceK v1337 fun a1339 l1339 c1339 =>
  bindO (loadO Tryd.prog 3 (.pointer (some ⟨h1272.next, 2, none⟩)) h1338) fun v1343 h1344 =>
  intK .i64 v1343 fun n1345 =>
  F12.L12 call lf ro kb6 lf a30 l30 c30 p31 o31 a1339 l1339 c1339 p33 o33 h1272.next 0 (IntKind.i64.wrap (8 * n1345)) 0 h1344

noncomputable def F12.PJ7 (kb : (Option Addr) → Nat → Nat → Nat → Nat → (Option Addr) → Nat → Nat → Nat → Nat → Heap → Out) (e : Env) (h : Heap) : Out :=
  getK (e.get 0) fun w0 =>
  sliceK w0 fun a1346 l1346 c1346 =>
  getK (e.get 4) fun w4 =>
  ptrK w4 fun p1347 o1347 =>
  getK (e.get 5) fun w5 =>
  sliceK w5 fun a1348 l1348 c1348 =>
  getK (e.get 6) fun w6 =>
  ptrK w6 fun p1349 o1349 =>
  kb a1346 l1346 c1346 p1347 o1347 a1348 l1348 c1348 p1349 o1349 h

noncomputable def F12.L6 (call : CT) (lf ro : Nat) : Nat → (Option Addr) → Nat → Nat → Nat → Nat → (Option Addr) → Nat → Nat → Nat → Nat → Heap → Out
  | 0, _, _, _, _, _, _, _, _, _, _, _ => .fail
  | n + 1, a19, l19, c19, p20, o20, a21, l21, c21, p22, o22, h23 =>
  bindO (loadO Tryd.prog 3 (.pointer (some ⟨p22, o22 + 0, none⟩)) h23) fun v1353 h1354 =>
  intK .i64 v1353 fun n1355 =>
  ifK (decide (n1355 < (l19 : Int))) (F12.J7 call lf ro (F12.L6 call lf ro n) a19 l19 c19 p20 o20 a21 l21 c21 p22 o22 h1354) (Out.ok (.tuple #[.slice a21 l21 c21, .int .i64 0]) h1354)

noncomputable def F12.P6 (kb : (Option Addr) → Nat → Nat → Nat → Nat → (Option Addr) → Nat → Nat → Nat → Nat → Heap → Out) (e : Env) (h : Heap) : Out :=
  getK (e.get 0) fun w0 =>
  sliceK w0 fun a1356 l1356 c1356 =>
  getK (e.get 4) fun w4 =>
  ptrK w4 fun p1357 o1357 =>
  getK (e.get 5) fun w5 =>
  sliceK w5 fun a1358 l1358 c1358 =>
  getK (e.get 6) fun w6 =>
  ptrK w6 fun p1359 o1359 =>
  kb a1356 l1356 c1356 p1357 o1357 a1358 l1358 c1358 p1359 o1359 h

noncomputable def F12.J3 (call : CT) (lf ro : Nat) (a1 : Option Addr) (l1 : Nat) (c1 : Nat) (h2 : Heap) : Out :=
  bindO (call ro 24 [.slice a1 l1 c1] h2) fun v8 h9 =>
  pushJ h9 1 [.pointer none] fun h10 =>
  bindO (storeO Tryd.prog ro 46 (.pointer (some ⟨h9.next, 0, none⟩)) v8 h10) fun v11 h12 =>
  pushJ h12 1 [.int .i64 0, .int .i64 0] fun h16 =>
  bindO (storeO Tryd.prog ro 49 (.pointer (some ⟨h12.next, 0, none⟩)) (.agg #[.int .i64 0, .int .i64 0]) h16) fun v17 h18 =>
  F12.L6 call lf ro lf a1 l1 c1 h9.next 0 none 0 0 h12.next 0 h18

noncomputable def F12.PJ3 (kb : (Option Addr) → Nat → Nat → Heap → Out) (e : Env) (h : Heap) : Out :=
  getK (e.get 0) fun w0 =>
  sliceK w0 fun a1360 l1360 c1360 =>
  kb a1360 l1360 c1360 h

noncomputable def F12.t (call : CT) (lf ro : Nat) (ax0 : Option Addr) (lx0 : Nat) (cx0 : Nat) (h : Heap) : Out :=
  ifK (decide ((lx0 : Int) > 4096)) (Out.ok (.tuple #[.slice none 0 0, .int .i64 4]) h) (F12.J3 call lf ro ax0 lx0 cx0 h)

noncomputable def F12.Ht (call : CT) (lf ro : Nat) (i : Nat) (e : Env) (h : Heap) : Out := ifK (i == 6) (F12.P6 (F12.L6 call lf ro lf) e h) (.fail)
noncomputable def F12.Ut (call : CT) (lf ro : Nat) (i : Nat) : Option (Env → Heap → Out) := ifJ (i == 3) (some (F12.PJ3 (F12.J3 call lf ro))) (none)

noncomputable def F12.H12 (call : CT) (lf ro : Nat) (kb6 : (Option Addr) → Nat → Nat → Nat → Nat → (Option Addr) → Nat → Nat → Nat → Nat → Heap → Out) (kb12 : (Option Addr) → Nat → Nat → Nat → Nat → (Option Addr) → Nat → Nat → Nat → Nat → Nat → Nat → Int → Int → Heap → Out) (i : Nat) (e : Env) (h : Heap) : Out := ifK (i == 12) (F12.P12 (F12.L12 call lf ro kb6 lf) e h) (ifK (i == 6) (F12.P6 (F12.L6 call lf ro lf) e h) (.fail))
noncomputable def F12.U12 (call : CT) (lf ro : Nat) (kb6 : (Option Addr) → Nat → Nat → Nat → Nat → (Option Addr) → Nat → Nat → Nat → Nat → Heap → Out) (kb12 : (Option Addr) → Nat → Nat → Nat → Nat → (Option Addr) → Nat → Nat → Nat → Nat → Nat → Nat → Int → Int → Heap → Out) (i : Nat) : Option (Env → Heap → Out) := ifJ (i == 7) (some (F12.PJ7 (F12.J7 call lf ro kb6))) (ifJ (i == 3) (some (F12.PJ3 (F12.J3 call lf ro))) (none))

noncomputable def F12.H6 (call : CT) (lf ro : Nat) (kb6 : (Option Addr) → Nat → Nat → Nat → Nat → (Option Addr) → Nat → Nat → Nat → Nat → Heap → Out) (i : Nat) (e : Env) (h : Heap) : Out := ifK (i == 12) (F12.P12 (F12.L12 call lf ro kb6 lf) e h) (ifK (i == 6) (F12.P6 (F12.L6 call lf ro lf) e h) (.fail))
noncomputable def F12.U6 (call : CT) (lf ro : Nat) (kb6 : (Option Addr) → Nat → Nat → Nat → Nat → (Option Addr) → Nat → Nat → Nat → Nat → Heap → Out) (i : Nat) : Option (Env → Heap → Out) := ifJ (i == 7) (some (F12.PJ7 (F12.J7 call lf ro kb6))) (ifJ (i == 3) (some (F12.PJ3 (F12.J3 call lf ro))) (none))

noncomputable def F12.C6 (call : CT) (lf ro : Nat) : COut → Out := blockK 0 (seqH Tryd.prog call ro (F12.Ht call lf ro) (F12.Ut call lf ro) (sub (codeOf Tryd.f12) [true, true, true, true, true]) (endK Tryd.prog Tryd.f12))

noncomputable def F12.K6 (call : CT) (lf ro : Nat) : COut → Out := blockK 0 (seqK Tryd.prog call lf ro (sub (codeOf Tryd.f12) [true, true, true, true, true]) (endK Tryd.prog Tryd.f12))

noncomputable def F12.CJ3 (call : CT) (lf ro : Nat) : COut → Out := endK Tryd.prog Tryd.f12

noncomputable def F12.KJ3 (call : CT) (lf ro : Nat) : COut → Out := endK Tryd.prog Tryd.f12

noncomputable def F12.C12 (call : CT) (lf ro : Nat) (kb6 : (Option Addr) → Nat → Nat → Nat → Nat → (Option Addr) → Nat → Nat → Nat → Nat → Heap → Out) : COut → Out := blockK 2 (seqH Tryd.prog call ro (F12.H6 call lf ro kb6) (F12.U6 call lf ro kb6) (sub (codeOf Tryd.f12) [true, true, true, true, false, true, false, false, true, false, false, true, true, true, true, true]) (blockK 1 (seqH Tryd.prog call ro (F12.H6 call lf ro kb6) (F12.U6 call lf ro kb6) (sub (codeOf Tryd.f12) [true, true, true, true, false, true, false, false, true, true]) (outK (F12.P6 kb6) (fun i e h => F12.C6 call lf ro (.exit i e h)) (fun e h => F12.C6 call lf ro (.ret e h))))))

noncomputable def F12.K12 (call : CT) (lf ro : Nat) (kb6 : (Option Addr) → Nat → Nat → Nat → Nat → (Option Addr) → Nat → Nat → Nat → Nat → Heap → Out) : COut → Out := blockK 2 (seqK Tryd.prog call lf ro (sub (codeOf Tryd.f12) [true, true, true, true, false, true, false, false, true, false, false, true, true, true, true, true]) (blockK 1 (seqK Tryd.prog call lf ro (sub (codeOf Tryd.f12) [true, true, true, true, false, true, false, false, true, true]) (outK (F12.P6 kb6) (fun i e h => F12.C6 call lf ro (.exit i e h)) (fun e h => F12.C6 call lf ro (.ret e h))))))

noncomputable def F12.CJ7 (call : CT) (lf ro : Nat) (kb6 : (Option Addr) → Nat → Nat → Nat → Nat → (Option Addr) → Nat → Nat → Nat → Nat → Heap → Out) : COut → Out := outK (F12.P6 kb6) (fun i e h => F12.C6 call lf ro (.exit i e h)) (fun e h => F12.C6 call lf ro (.ret e h))

noncomputable def F12.KJ7 (call : CT) (lf ro : Nat) (kb6 : (Option Addr) → Nat → Nat → Nat → Nat → (Option Addr) → Nat → Nat → Nat → Nat → Heap → Out) : COut → Out := outK (F12.P6 kb6) (fun i e h => F12.C6 call lf ro (.exit i e h)) (fun e h => F12.C6 call lf ro (.ret e h))

theorem F12.R12 (call : CT) (lf ro : Nat) (kb6 : (Option Addr) → Nat → Nat → Nat → Nat → (Option Addr) → Nat → Nat → Nat → Nat → Heap → Out) (n : Nat) (f : Nat → Option Value) (a225 : Option Addr) (l225 : Nat) (c225 : Nat) (p226 : Nat) (o226 : Nat) (a227 : Option Addr) (l227 : Nat) (c227 : Nat) (p228 : Nat) (o228 : Nat) (p229 : Nat) (o229 : Nat) (n230 : Int) (n231 : Int) (h232 : Heap) :
    execH Tryd.prog call ro (F12.H12 call lf ro kb6 (F12.L12 call lf ro kb6 n)) (F12.U12 call lf ro kb6 (F12.L12 call lf ro kb6 n)) (sub (codeOf Tryd.f12) [true, true, true, true, false, true, false, false, true, false, false, true, true, true, true, false, true, false, false]) (EF 68 (updF (updF (updF (updF (updF (updF (updF f 0 (some (.slice a225 l225 c225))) 4 (some (.pointer (some ⟨p226, o226, none⟩)))) 5 (some (.slice a227 l227 c227))) 6 (some (.pointer (some ⟨p228, o228, none⟩)))) 8 (some (.pointer (some ⟨p229, o229, none⟩)))) 42 (some (.int .i64 n230))) 43 (some (.int .i64 n231)))) h232 (outK (F12.P12 (F12.L12 call lf ro kb6 n)) (fun i e h => F12.C12 call lf ro kb6 (.exit i e h)) (fun e h => F12.C12 call lf ro kb6 (.ret e h))) = F12.L12 call lf ro kb6 (n + 1) a225 l225 c225 p226 o226 a227 l227 c227 p228 o228 p229 o229 n230 n231 h232 := by kernel_rfl

theorem F12.CK12 (call : CT) (lf ro : Nat) (kb6 : (Option Addr) → Nat → Nat → Nat → Nat → (Option Addr) → Nat → Nat → Nat → Nat → Heap → Out) : KLe 68 (F12.C12 call lf ro kb6) (F12.K12 call lf ro kb6) :=
  (KLe.block (KLe.seq (H := (F12.H6 call lf ro kb6)) (J := (F12.U6 call lf ro kb6)) (KLe.block (KLe.seq (H := (F12.H6 call lf ro kb6)) (J := (F12.U6 call lf ro kb6)) (KLe.refl _) (hd_free rfl))) (hd_free rfl)))

theorem F12.B12 (call : CT) (lf ro : Nat) (kb6 : (Option Addr) → Nat → Nat → Nat → Nat → (Option Addr) → Nat → Nat → Nat → Nat → Heap → Out) : ∀ n e h, Shaped 68 e → LeO (F12.P12 (F12.L12 call lf ro kb6 n) e h) (loopK (execK Tryd.prog call lf ro (sub (codeOf Tryd.f12) [true, true, true, true, false, true, false, false, true, false, false, true, true, true, true, false, true, false, false])) n e h (F12.K12 call lf ro kb6)) := by
  refine loop_le (fun e h k k' hs hk => execK_mono _ e h k k' hs hk) (kb := fun n => F12.P12 (F12.L12 call lf ro kb6 n)) (kx := fun i e h => F12.C12 call lf ro kb6 (.exit i e h)) (kr := fun e h => F12.C12 call lf ro kb6 (.ret e h)) ?_ ?_ (fun i e h hs => (F12.CK12 call lf ro kb6).exit i e h hs) (fun e h hs => (F12.CK12 call lf ro kb6).ret e h hs)
  · rintro e h ⟨f, rfl⟩
    unfold F12.P12
    refine getK_le fun w0 g0 => ?_
    rw [EF_get (by decide)] at g0
    refine sliceK_le fun a769 l769 c769 z1361 => ?_
    subst z1361
    refine getK_le fun w4 g4 => ?_
    rw [EF_get (by decide)] at g4
    refine ptrK_le fun p770 o770 z1362 => ?_
    subst z1362
    refine getK_le fun w5 g5 => ?_
    rw [EF_get (by decide)] at g5
    refine sliceK_le fun a771 l771 c771 z1363 => ?_
    subst z1363
    refine getK_le fun w6 g6 => ?_
    rw [EF_get (by decide)] at g6
    refine ptrK_le fun p772 o772 z1364 => ?_
    subst z1364
    refine getK_le fun w8 g8 => ?_
    rw [EF_get (by decide)] at g8
    refine ptrK_le fun p773 o773 z1365 => ?_
    subst z1365
    refine getK_le fun w42 g42 => ?_
    rw [EF_get (by decide)] at g42
    refine intK_le fun n774 z1366 => ?_
    subst z1366
    refine getK_le fun w43 g43 => ?_
    rw [EF_get (by decide)] at g43
    refine intK_le fun n775 z1367 => ?_
    subst z1367
    exact LeO.refl _
  · rintro n e h ⟨f, rfl⟩
    unfold F12.P12
    refine getK_le fun w0 g0 => ?_
    rw [EF_get (by decide)] at g0
    refine sliceK_le fun a769 l769 c769 z1368 => ?_
    subst z1368
    refine getK_le fun w4 g4 => ?_
    rw [EF_get (by decide)] at g4
    refine ptrK_le fun p770 o770 z1369 => ?_
    subst z1369
    refine getK_le fun w5 g5 => ?_
    rw [EF_get (by decide)] at g5
    refine sliceK_le fun a771 l771 c771 z1370 => ?_
    subst z1370
    refine getK_le fun w6 g6 => ?_
    rw [EF_get (by decide)] at g6
    refine ptrK_le fun p772 o772 z1371 => ?_
    subst z1371
    refine getK_le fun w8 g8 => ?_
    rw [EF_get (by decide)] at g8
    refine ptrK_le fun p773 o773 z1372 => ?_
    subst z1372
    refine getK_le fun w42 g42 => ?_
    rw [EF_get (by decide)] at g42
    refine intK_le fun n774 z1373 => ?_
    subst z1373
    refine getK_le fun w43 g43 => ?_
    rw [EF_get (by decide)] at g43
    refine intK_le fun n775 z1374 => ?_
    subst z1374
    have hr := F12.R12 call lf ro kb6 n f a769 l769 c769 p770 o770 a771 l771 c771 p772 o772 p773 o773 n774 n775 h
    rw [updF_same g0, updF_same g4, updF_same g5, updF_same g6, updF_same g8, updF_same g42, updF_same g43] at hr
    exact round_le (H := (F12.H12 call lf ro kb6 (F12.L12 call lf ro kb6 n))) (J := (F12.U12 call lf ro kb6 (F12.L12 call lf ro kb6 n))) (hd_free rfl) hr

theorem F12.RJ7 (call : CT) (lf ro : Nat) (kb6 : (Option Addr) → Nat → Nat → Nat → Nat → (Option Addr) → Nat → Nat → Nat → Nat → Heap → Out) (f : Nat → Option Value) (a30 : Option Addr) (l30 : Nat) (c30 : Nat) (p31 : Nat) (o31 : Nat) (a32 : Option Addr) (l32 : Nat) (c32 : Nat) (p33 : Nat) (o33 : Nat) (h34 : Heap) :
    execH Tryd.prog call ro (F12.H6 call lf ro kb6) (F12.U6 call lf ro kb6) (sub (codeOf Tryd.f12) [true, true, true, true, false, true, false, false, true]) (EF 68 (updF (updF (updF (updF f 0 (some (.slice a30 l30 c30))) 4 (some (.pointer (some ⟨p31, o31, none⟩)))) 5 (some (.slice a32 l32 c32))) 6 (some (.pointer (some ⟨p33, o33, none⟩))))) h34 (F12.CJ7 call lf ro kb6) = F12.J7 call lf ro kb6 a30 l30 c30 p31 o31 a32 l32 c32 p33 o33 h34 := by kernel_rfl

theorem F12.CKJ7 (call : CT) (lf ro : Nat) (kb6 : (Option Addr) → Nat → Nat → Nat → Nat → (Option Addr) → Nat → Nat → Nat → Nat → Heap → Out) : KLe 68 (F12.CJ7 call lf ro kb6) (F12.KJ7 call lf ro kb6) :=
  (KLe.refl _)

theorem F12.BJ7 (call : CT) (lf ro : Nat) (kb6 : (Option Addr) → Nat → Nat → Nat → Nat → (Option Addr) → Nat → Nat → Nat → Nat → Heap → Out) : ∀ e h, Shaped 68 e → LeO (F12.PJ7 (F12.J7 call lf ro kb6) e h) (execK Tryd.prog call lf ro (sub (codeOf Tryd.f12) [true, true, true, true, false, true, false, false, true]) e h (F12.KJ7 call lf ro kb6)) := by
    rintro e h ⟨f, rfl⟩
    unfold F12.PJ7
    refine getK_le fun w0 g0 => ?_
    rw [EF_get (by decide)] at g0
    refine sliceK_le fun a1346 l1346 c1346 z1375 => ?_
    subst z1375
    refine getK_le fun w4 g4 => ?_
    rw [EF_get (by decide)] at g4
    refine ptrK_le fun p1347 o1347 z1376 => ?_
    subst z1376
    refine getK_le fun w5 g5 => ?_
    rw [EF_get (by decide)] at g5
    refine sliceK_le fun a1348 l1348 c1348 z1377 => ?_
    subst z1377
    refine getK_le fun w6 g6 => ?_
    rw [EF_get (by decide)] at g6
    refine ptrK_le fun p1349 o1349 z1378 => ?_
    subst z1378
    have hr := F12.RJ7 call lf ro kb6 f a1346 l1346 c1346 p1347 o1347 a1348 l1348 c1348 p1349 o1349 h
    rw [updF_same g0, updF_same g4, updF_same g5, updF_same g6] at hr
    exact cut_le (H := (F12.H6 call lf ro kb6)) (J := (F12.U6 call lf ro kb6)) (F12.CKJ7 call lf ro kb6) ⟨⟨(hd_free rfl), ⟨(hd_free rfl), ⟨(hd_free rfl), ⟨(hd_free rfl), ⟨⟨(hd_free rfl), (fun e h hs => F12.B12 call lf ro kb6 lf e h hs)⟩, (hd_free rfl)⟩⟩⟩⟩⟩, (hd_free rfl)⟩ hr

theorem F12.R6 (call : CT) (lf ro : Nat) (n : Nat) (f : Nat → Option Value) (a19 : Option Addr) (l19 : Nat) (c19 : Nat) (p20 : Nat) (o20 : Nat) (a21 : Option Addr) (l21 : Nat) (c21 : Nat) (p22 : Nat) (o22 : Nat) (h23 : Heap) :
    execH Tryd.prog call ro (F12.H6 call lf ro (F12.L6 call lf ro n)) (F12.U6 call lf ro (F12.L6 call lf ro n)) (sub (codeOf Tryd.f12) [true, true, true, true, false, true, false, false]) (EF 68 (updF (updF (updF (updF f 0 (some (.slice a19 l19 c19))) 4 (some (.pointer (some ⟨p20, o20, none⟩)))) 5 (some (.slice a21 l21 c21))) 6 (some (.pointer (some ⟨p22, o22, none⟩))))) h23 (outK (F12.P6 (F12.L6 call lf ro n)) (fun i e h => F12.C6 call lf ro (.exit i e h)) (fun e h => F12.C6 call lf ro (.ret e h))) = F12.L6 call lf ro (n + 1) a19 l19 c19 p20 o20 a21 l21 c21 p22 o22 h23 := by kernel_rfl

theorem F12.CK6 (call : CT) (lf ro : Nat) : KLe 68 (F12.C6 call lf ro) (F12.K6 call lf ro) :=
  (KLe.block (KLe.seq (H := (F12.Ht call lf ro)) (J := (F12.Ut call lf ro)) (KLe.refl _) (hd_free rfl)))

theorem F12.B6 (call : CT) (lf ro : Nat) : ∀ n e h, Shaped 68 e → LeO (F12.P6 (F12.L6 call lf ro n) e h) (loopK (execK Tryd.prog call lf ro (sub (codeOf Tryd.f12) [true, true, true, true, false, true, false, false])) n e h (F12.K6 call lf ro)) := by
  refine loop_le (fun e h k k' hs hk => execK_mono _ e h k k' hs hk) (kb := fun n => F12.P6 (F12.L6 call lf ro n)) (kx := fun i e h => F12.C6 call lf ro (.exit i e h)) (kr := fun e h => F12.C6 call lf ro (.ret e h)) ?_ ?_ (fun i e h hs => (F12.CK6 call lf ro).exit i e h hs) (fun e h hs => (F12.CK6 call lf ro).ret e h hs)
  · rintro e h ⟨f, rfl⟩
    unfold F12.P6
    refine getK_le fun w0 g0 => ?_
    rw [EF_get (by decide)] at g0
    refine sliceK_le fun a1356 l1356 c1356 z1383 => ?_
    subst z1383
    refine getK_le fun w4 g4 => ?_
    rw [EF_get (by decide)] at g4
    refine ptrK_le fun p1357 o1357 z1384 => ?_
    subst z1384
    refine getK_le fun w5 g5 => ?_
    rw [EF_get (by decide)] at g5
    refine sliceK_le fun a1358 l1358 c1358 z1385 => ?_
    subst z1385
    refine getK_le fun w6 g6 => ?_
    rw [EF_get (by decide)] at g6
    refine ptrK_le fun p1359 o1359 z1386 => ?_
    subst z1386
    exact LeO.refl _
  · rintro n e h ⟨f, rfl⟩
    unfold F12.P6
    refine getK_le fun w0 g0 => ?_
    rw [EF_get (by decide)] at g0
    refine sliceK_le fun a1356 l1356 c1356 z1387 => ?_
    subst z1387
    refine getK_le fun w4 g4 => ?_
    rw [EF_get (by decide)] at g4
    refine ptrK_le fun p1357 o1357 z1388 => ?_
    subst z1388
    refine getK_le fun w5 g5 => ?_
    rw [EF_get (by decide)] at g5
    refine sliceK_le fun a1358 l1358 c1358 z1389 => ?_
    subst z1389
    refine getK_le fun w6 g6 => ?_
    rw [EF_get (by decide)] at g6
    refine ptrK_le fun p1359 o1359 z1390 => ?_
    subst z1390
    have hr := F12.R6 call lf ro n f a1356 l1356 c1356 p1357 o1357 a1358 l1358 c1358 p1359 o1359 h
    rw [updF_same g0, updF_same g4, updF_same g5, updF_same g6] at hr
    exact round_le (H := (F12.H6 call lf ro (F12.L6 call lf ro n))) (J := (F12.U6 call lf ro (F12.L6 call lf ro n))) ⟨(hd_free rfl), (fun e h hs => F12.BJ7 call lf ro (F12.L6 call lf ro n) e h hs)⟩ hr

theorem F12.RJ3 (call : CT) (lf ro : Nat) (f : Nat → Option Value) (a1 : Option Addr) (l1 : Nat) (c1 : Nat) (h2 : Heap) :
    execH Tryd.prog call ro (F12.Ht call lf ro) (F12.Ut call lf ro) (sub (codeOf Tryd.f12) [true, true]) (EF 68 (updF f 0 (some (.slice a1 l1 c1)))) h2 (F12.CJ3 call lf ro) = F12.J3 call lf ro a1 l1 c1 h2 := by kernel_rfl

theorem F12.CKJ3 (call : CT) (lf ro : Nat) : KLe 68 (F12.CJ3 call lf ro) (F12.KJ3 call lf ro) :=
  (KLe.refl _)

theorem F12.BJ3 (call : CT) (lf ro : Nat) : ∀ e h, Shaped 68 e → LeO (F12.PJ3 (F12.J3 call lf ro) e h) (execK Tryd.prog call lf ro (sub (codeOf Tryd.f12) [true, true]) e h (F12.KJ3 call lf ro)) := by
    rintro e h ⟨f, rfl⟩
    unfold F12.PJ3
    refine getK_le fun w0 g0 => ?_
    rw [EF_get (by decide)] at g0
    refine sliceK_le fun a1360 l1360 c1360 z1391 => ?_
    subst z1391
    have hr := F12.RJ3 call lf ro f a1360 l1360 c1360 h
    rw [updF_same g0] at hr
    exact cut_le (H := (F12.Ht call lf ro)) (J := (F12.Ut call lf ro)) (F12.CKJ3 call lf ro) ⟨(hd_free rfl), ⟨(hd_free rfl), ⟨⟨(hd_free rfl), (fun e h hs => F12.B6 call lf ro  lf e h hs)⟩, (hd_free rfl)⟩⟩⟩ hr

theorem F12.le (call : CT) (lf ro : Nat) (ax0 : Option Addr) (lx0 : Nat) (cx0 : Nat) (h : Heap) : LeO (F12.t call lf ro ax0 lx0 cx0 h) (bodyK Tryd.prog call lf ro Tryd.f12 [.slice ax0 lx0 cx0] h) :=
  body_le (c := codeOf Tryd.f12) (H := F12.Ht call lf ro) (J := F12.Ut call lf ro) rfl (Nat.le_of_ble_eq_true rfl) ⟨(hd_free rfl), ⟨(hd_free rfl), (fun e h hs => F12.BJ3 call lf ro  e h hs)⟩⟩ (by kernel_rfl)

/-! ### barscan/aztext.Length: function 14 -/

noncomputable def F14.t (call : CT) (lf ro : Nat) (ax0 : Option Addr) (lx0 : Nat) (cx0 : Nat) (h : Heap) : Out :=
  ifK (decide ((lx0 : Int) > 4096)) (Out.ok (.tuple #[.int .i64 0, .int .i64 4]) h) (bindO (call ro 24 [.slice ax0 lx0 cx0] h) fun v12 h13 =>
  bindO (nilO Tryd.prog v12 h13) fun v14 h15 =>
  bindO (faddrO Tryd.prog 61 v14 2 h15) fun v16 h17 =>
  bindO (loadO Tryd.prog 59 v16 h17) fun v18 h19 =>
  bindO (lookupOp Tryd.prog 59 v18 (.agg #[.int .i64 0, .int .i64 0]) false h19) fun v20 h21 =>
  intK .i64 v20 fun n22 =>
  Out.ok (.tuple #[.int .i64 n22, .int .i64 0]) h21)

noncomputable def F14.Ht (call : CT) (lf ro : Nat) (i : Nat) (e : Env) (h : Heap) : Out := .fail
noncomputable def F14.Ut (call : CT) (lf ro : Nat) (i : Nat) : Option (Env → Heap → Out) := none

theorem F14.le (call : CT) (lf ro : Nat) (ax0 : Option Addr) (lx0 : Nat) (cx0 : Nat) (h : Heap) : LeO (F14.t call lf ro ax0 lx0 cx0 h) (bodyK Tryd.prog call lf ro Tryd.f14 [.slice ax0 lx0 cx0] h) :=
  body_le (c := codeOf Tryd.f14) (H := F14.Ht call lf ro) (J := F14.Ut call lf ro) rfl (Nat.le_of_ble_eq_true rfl) (hd_free rfl) (by kernel_rfl)

/-! ### barscan/barscanlaw27.bitsOf: function 23 -/

noncomputable def F23.t (call : CT) (lf ro : Nat) (x0 : ByteArray) (h : Heap) : Out :=
  bindO (call ro 47 [.string x0] h) fun v10 h11 =>
  tupK v10 fun q12 =>
  consK q12 fun x13 q14 =>
  sliceK x13 fun a15 l15 c15 =>
  consK q14 fun x16 q17 =>
  intK .i64 x16 fun n18 =>
  nilK q17 <|
  Out.ok (.slice a15 l15 c15) h11

noncomputable def F23.Ht (call : CT) (lf ro : Nat) (i : Nat) (e : Env) (h : Heap) : Out := .fail
noncomputable def F23.Ut (call : CT) (lf ro : Nat) (i : Nat) : Option (Env → Heap → Out) := none

theorem F23.le (call : CT) (lf ro : Nat) (x0 : ByteArray) (h : Heap) : LeO (F23.t call lf ro x0 h) (bodyK Tryd.prog call lf ro Tryd.f23 [.string x0] h) :=
  body_le (c := codeOf Tryd.f23) (H := F23.Ht call lf ro) (J := F23.Ut call lf ro) rfl (Nat.le_of_ble_eq_true rfl) (hd_free rfl) (by kernel_rfl)

/-! ### barscan/aztext.solved: function 24 -/

noncomputable def F24.L8 (call : CT) (lf ro : Nat) : Nat → Nat → Nat → Int → Heap → Out
  | 0, _, _, _, _ => .fail
  | n + 1, p12, o12, n13, h14 =>
  letJ ((Out.ok (.pointer (some ⟨p12, o12, none⟩)) h14)) fun j24 =>
  ifK (decide (n13 ≥ 0)) (bindO (call ro 49 [.pointer (some ⟨p12, o12, none⟩), .int .i64 n13] h14) fun v31 h32 =>
  tupK v31 fun q33 =>
  nilK q33 <|
  F24.L8 call lf ro n p12 o12 (IntKind.i64.wrap (n13 - 1)) h32) (j24)

noncomputable def F24.P8 (kb : Nat → Nat → Int → Heap → Out) (e : Env) (h : Heap) : Out :=
  getK (e.get 3) fun w3 =>
  ptrK w3 fun p34 o34 =>
  getK (e.get 5) fun w5 =>
  intK .i64 w5 fun n35 =>
  kb p34 o34 n35 h

noncomputable def F24.J7 (call : CT) (lf ro : Nat) (a9 : Option Addr) (l9 : Nat) (c9 : Nat) (p10 : Nat) (o10 : Nat) (h11 : Heap) : Out :=
  F24.L8 call lf ro lf p10 o10 (l9 : Int) h11

noncomputable def F24.PJ7 (kb : (Option Addr) → Nat → Nat → Nat → Nat → Heap → Out) (e : Env) (h : Heap) : Out :=
  getK (e.get 0) fun w0 =>
  sliceK w0 fun a36 l36 c36 =>
  getK (e.get 3) fun w3 =>
  ptrK w3 fun p37 o37 =>
  kb a36 l36 c36 p37 o37 h

noncomputable def F24.L3 (call : CT) (lf ro : Nat) : Nat → (Option Addr) → Nat → Nat → Nat → Nat → Int → Heap → Out
  | 0, _, _, _, _, _, _, _ => .fail
  | n + 1, a5, l5, c5, p6, o6, n7, h8 =>
  ifK (decide (n7 < 5)) (bindN (call ro 48 [.int .i64 n7] h8) fun v52 h53 =>
  sliceK v52 fun a54 l54 c54 =>
  bindO (idxO Tryd.prog 58 (.pointer (some ⟨p6, o6 + 1, none⟩)) (.int .i64 n7) h53) fun v55 h56 =>
  bindO (storeO Tryd.prog ro 57 v55 (.slice a54 l54 c54) h56) fun v57 h58 =>
  F24.L3 call lf ro n a5 l5 c5 p6 o6 (IntKind.i64.wrap (n7 + 1)) h58) (F24.J7 call lf ro a5 l5 c5 p6 o6 h8)

noncomputable def F24.P3 (kb : (Option Addr) → Nat → Nat → Nat → Nat → Int → Heap → Out) (e : Env) (h : Heap) : Out :=
  getK (e.get 0) fun w0 =>
  sliceK w0 fun a59 l59 c59 =>
  getK (e.get 3) fun w3 =>
  ptrK w3 fun p60 o60 =>
  getK (e.get 10) fun w10 =>
  intK .i64 w10 fun n61 =>
  kb a59 l59 c59 p60 o60 n61 h

noncomputable def F24.t (call : CT) (lf ro : Nat) (ax0 : Option Addr) (lx0 : Nat) (cx0 : Nat) (h : Heap) : Out :=
  pushMJ h fun h3 =>
  pushJ h3 1 [.slice ax0 lx0 cx0, .slice none 0 0, .slice none 0 0, .slice none 0 0, .slice none 0 0, .slice none 0 0, .map (some h.next)] fun h4 =>
  F24.L3 call lf ro lf ax0 lx0 cx0 h3.next 0 0 h4

noncomputable def F24.Ht (call : CT) (lf ro : Nat) (i : Nat) (e : Env) (h : Heap) : Out := ifK (i == 8) (F24.P8 (F24.L8 call lf ro lf) e h) (ifK (i == 3) (F24.P3 (F24.L3 call lf ro lf) e h) (.fail))
noncomputable def F24.Ut (call : CT) (lf ro : Nat) (i : Nat) : Option (Env → Heap → Out) := ifJ (i == 7) (some (F24.PJ7 (F24.J7 call lf ro))) (none)

noncomputable def F24.H8 (call : CT) (lf ro : Nat) (kb8 : Nat → Nat → Int → Heap → Out) (i : Nat) (e : Env) (h : Heap) : Out := ifK (i == 8) (F24.P8 (F24.L8 call lf ro lf) e h) (ifK (i == 3) (F24.P3 (F24.L3 call lf ro lf) e h) (.fail))
noncomputable def F24.U8 (call : CT) (lf ro : Nat) (kb8 : Nat → Nat → Int → Heap → Out) (i : Nat) : Option (Env → Heap → Out) := ifJ (i == 7) (some (F24.PJ7 (F24.J7 call lf ro))) (none)

noncomputable def F24.H3 (call : CT) (lf ro : Nat) (kb3 : (Option Addr) → Nat → Nat → Nat → Nat → Int → Heap → Out) (i : Nat) (e : Env) (h : Heap) : Out := ifK (i == 8) (F24.P8 (F24.L8 call lf ro lf) e h) (ifK (i == 3) (F24.P3 (F24.L3 call lf ro lf) e h) (.fail))
noncomputable def F24.U3 (call : CT) (lf ro : Nat) (kb3 : (Option Addr) → Nat → Nat → Nat → Nat → Int → Heap → Out) (i : Nat) : Option (Env → Heap → Out) := ifJ (i == 7) (some (F24.PJ7 (F24.J7 call lf ro))) (none)

noncomputable def F24.C8 (call : CT) (lf ro : Nat) : COut → Out := blockK 2 (seqH Tryd.prog call ro (F24.Ht call lf ro) (F24.Ut call lf ro) (sub (codeOf Tryd.f24) [true, true, true, true]) (endK Tryd.prog Tryd.f24))

noncomputable def F24.K8 (call : CT) (lf ro : Nat) : COut → Out := blockK 2 (seqK Tryd.prog call lf ro (sub (codeOf Tryd.f24) [true, true, true, true]) (endK Tryd.prog Tryd.f24))

noncomputable def F24.C3 (call : CT) (lf ro : Nat) : COut → Out := blockK 0 (seqH Tryd.prog call ro (F24.Ht call lf ro) (F24.Ut call lf ro) (sub (codeOf Tryd.f24) [true, true, true]) (endK Tryd.prog Tryd.f24))

noncomputable def F24.K3 (call : CT) (lf ro : Nat) : COut → Out := blockK 0 (seqK Tryd.prog call lf ro (sub (codeOf Tryd.f24) [true, true, true]) (endK Tryd.prog Tryd.f24))

noncomputable def F24.CJ7 (call : CT) (lf ro : Nat) : COut → Out := endK Tryd.prog Tryd.f24

noncomputable def F24.KJ7 (call : CT) (lf ro : Nat) : COut → Out := endK Tryd.prog Tryd.f24

theorem F24.R8 (call : CT) (lf ro : Nat) (n : Nat) (f : Nat → Option Value) (p12 : Nat) (o12 : Nat) (n13 : Int) (h14 : Heap) :
    execH Tryd.prog call ro (F24.H8 call lf ro (F24.L8 call lf ro n)) (F24.U8 call lf ro (F24.L8 call lf ro n)) (sub (codeOf Tryd.f24) [true, true, true, false, true, false, false]) (EF 31 (updF (updF f 3 (some (.pointer (some ⟨p12, o12, none⟩)))) 5 (some (.int .i64 n13)))) h14 (outK (F24.P8 (F24.L8 call lf ro n)) (fun i e h => F24.C8 call lf ro (.exit i e h)) (fun e h => F24.C8 call lf ro (.ret e h))) = F24.L8 call lf ro (n + 1) p12 o12 n13 h14 := by kernel_rfl

theorem F24.CK8 (call : CT) (lf ro : Nat) : KLe 31 (F24.C8 call lf ro) (F24.K8 call lf ro) :=
  (KLe.block (KLe.seq (H := (F24.Ht call lf ro)) (J := (F24.Ut call lf ro)) (KLe.refl _) (hd_free rfl)))

theorem F24.B8 (call : CT) (lf ro : Nat) : ∀ n e h, Shaped 31 e → LeO (F24.P8 (F24.L8 call lf ro n) e h) (loopK (execK Tryd.prog call lf ro (sub (codeOf Tryd.f24) [true, true, true, false, true, false, false])) n e h (F24.K8 call lf ro)) := by
  refine loop_le (fun e h k k' hs hk => execK_mono _ e h k k' hs hk) (kb := fun n => F24.P8 (F24.L8 call lf ro n)) (kx := fun i e h => F24.C8 call lf ro (.exit i e h)) (kr := fun e h => F24.C8 call lf ro (.ret e h)) ?_ ?_ (fun i e h hs => (F24.CK8 call lf ro).exit i e h hs) (fun e h hs => (F24.CK8 call lf ro).ret e h hs)
  · rintro e h ⟨f, rfl⟩
    unfold F24.P8
    refine getK_le fun w3 g3 => ?_
    rw [EF_get (by decide)] at g3
    refine ptrK_le fun p34 o34 z62 => ?_
    subst z62
    refine getK_le fun w5 g5 => ?_
    rw [EF_get (by decide)] at g5
    refine intK_le fun n35 z63 => ?_
    subst z63
    exact LeO.refl _
  · rintro n e h ⟨f, rfl⟩
    unfold F24.P8
    refine getK_le fun w3 g3 => ?_
    rw [EF_get (by decide)] at g3
    refine ptrK_le fun p34 o34 z64 => ?_
    subst z64
    refine getK_le fun w5 g5 => ?_
    rw [EF_get (by decide)] at g5
    refine intK_le fun n35 z65 => ?_
    subst z65
    have hr := F24.R8 call lf ro n f p34 o34 n35 h
    rw [updF_same g3, updF_same g5] at hr
    exact round_le (H := (F24.H8 call lf ro (F24.L8 call lf ro n))) (J := (F24.U8 call lf ro (F24.L8 call lf ro n))) (hd_free rfl) hr

theorem F24.RJ7 (call : CT) (lf ro : Nat) (f : Nat → Option Value) (a9 : Option Addr) (l9 : Nat) (c9 : Nat) (p10 : Nat) (o10 : Nat) (h11 : Heap) :
    execH Tryd.prog call ro (F24.Ht call lf ro) (F24.Ut call lf ro) (sub (codeOf Tryd.f24) [true, true, true]) (EF 31 (updF (updF f 0 (some (.slice a9 l9 c9))) 3 (some (.pointer (some ⟨p10, o10, none⟩))))) h11 (F24.CJ7 call lf ro) = F24.J7 call lf ro a9 l9 c9 p10 o10 h11 := by kernel_rfl

theorem F24.CKJ7 (call : CT) (lf ro : Nat) : KLe 31 (F24.CJ7 call lf ro) (F24.KJ7 call lf ro) :=
  (KLe.refl _)

theorem F24.BJ7 (call : CT) (lf ro : Nat) : ∀ e h, Shaped 31 e → LeO (F24.PJ7 (F24.J7 call lf ro) e h) (execK Tryd.prog call lf ro (sub (codeOf Tryd.f24) [true, true, true]) e h (F24.KJ7 call lf ro)) := by
    rintro e h ⟨f, rfl⟩
    unfold F24.PJ7
    refine getK_le fun w0 g0 => ?_
    rw [EF_get (by decide)] at g0
    refine sliceK_le fun a36 l36 c36 z66 => ?_
    subst z66
    refine getK_le fun w3 g3 => ?_
    rw [EF_get (by decide)] at g3
    refine ptrK_le fun p37 o37 z67 => ?_
    subst z67
    have hr := F24.RJ7 call lf ro f a36 l36 c36 p37 o37 h
    rw [updF_same g0, updF_same g3] at hr
    exact cut_le (H := (F24.Ht call lf ro)) (J := (F24.Ut call lf ro)) (F24.CKJ7 call lf ro) ⟨⟨(hd_free rfl), (fun e h hs => F24.B8 call lf ro  lf e h hs)⟩, (hd_free rfl)⟩ hr

theorem F24.R3 (call : CT) (lf ro : Nat) (n : Nat) (f : Nat → Option Value) (a5 : Option Addr) (l5 : Nat) (c5 : Nat) (p6 : Nat) (o6 : Nat) (n7 : Int) (h8 : Heap) :
    execH Tryd.prog call ro (F24.H3 call lf ro (F24.L3 call lf ro n)) (F24.U3 call lf ro (F24.L3 call lf ro n)) (sub (codeOf Tryd.f24) [true, true, false, true, false, false]) (EF 31 (updF (updF (updF f 0 (some (.slice a5 l5 c5))) 3 (some (.pointer (some ⟨p6, o6, none⟩)))) 10 (some (.int .i64 n7)))) h8 (outK (F24.P3 (F24.L3 call lf ro n)) (fun i e h => F24.C3 call lf ro (.exit i e h)) (fun e h => F24.C3 call lf ro (.ret e h))) = F24.L3 call lf ro (n + 1) a5 l5 c5 p6 o6 n7 h8 := by kernel_rfl

theorem F24.CK3 (call : CT) (lf ro : Nat) : KLe 31 (F24.C3 call lf ro) (F24.K3 call lf ro) :=
  (KLe.block (KLe.seq (H := (F24.Ht call lf ro)) (J := (F24.Ut call lf ro)) (KLe.refl _) (fun e h hs => F24.BJ7 call lf ro  e h hs)))

theorem F24.B3 (call : CT) (lf ro : Nat) : ∀ n e h, Shaped 31 e → LeO (F24.P3 (F24.L3 call lf ro n) e h) (loopK (execK Tryd.prog call lf ro (sub (codeOf Tryd.f24) [true, true, false, true, false, false])) n e h (F24.K3 call lf ro)) := by
  refine loop_le (fun e h k k' hs hk => execK_mono _ e h k k' hs hk) (kb := fun n => F24.P3 (F24.L3 call lf ro n)) (kx := fun i e h => F24.C3 call lf ro (.exit i e h)) (kr := fun e h => F24.C3 call lf ro (.ret e h)) ?_ ?_ (fun i e h hs => (F24.CK3 call lf ro).exit i e h hs) (fun e h hs => (F24.CK3 call lf ro).ret e h hs)
  · rintro e h ⟨f, rfl⟩
    unfold F24.P3
    refine getK_le fun w0 g0 => ?_
    rw [EF_get (by decide)] at g0
    refine sliceK_le fun a59 l59 c59 z70 => ?_
    subst z70
    refine getK_le fun w3 g3 => ?_
    rw [EF_get (by decide)] at g3
    refine ptrK_le fun p60 o60 z71 => ?_
    subst z71
    refine getK_le fun w10 g10 => ?_
    rw [EF_get (by decide)] at g10
    refine intK_le fun n61 z72 => ?_
    subst z72
    exact LeO.refl _
  · rintro n e h ⟨f, rfl⟩
    unfold F24.P3
    refine getK_le fun w0 g0 => ?_
    rw [EF_get (by decide)] at g0
    refine sliceK_le fun a59 l59 c59 z73 => ?_
    subst z73
    refine getK_le fun w3 g3 => ?_
    rw [EF_get (by decide)] at g3
    refine ptrK_le fun p60 o60 z74 => ?_
    subst z74
    refine getK_le fun w10 g10 => ?_
    rw [EF_get (by decide)] at g10
    refine intK_le fun n61 z75 => ?_
    subst z75
    have hr := F24.R3 call lf ro n f a59 l59 c59 p60 o60 n61 h
    rw [updF_same g0, updF_same g3, updF_same g10] at hr
    exact round_le (H := (F24.H3 call lf ro (F24.L3 call lf ro n))) (J := (F24.U3 call lf ro (F24.L3 call lf ro n))) (hd_free rfl) hr

theorem F24.le (call : CT) (lf ro : Nat) (ax0 : Option Addr) (lx0 : Nat) (cx0 : Nat) (h : Heap) : LeO (F24.t call lf ro ax0 lx0 cx0 h) (bodyK Tryd.prog call lf ro Tryd.f24 [.slice ax0 lx0 cx0] h) :=
  body_le (c := codeOf Tryd.f24) (H := F24.Ht call lf ro) (J := F24.Ut call lf ro) rfl (Nat.le_of_ble_eq_true rfl) ⟨(hd_free rfl), ⟨(hd_free rfl), ⟨⟨(hd_free rfl), (fun e h hs => F24.B3 call lf ro  lf e h hs)⟩, (fun e h hs => F24.BJ7 call lf ro  e h hs)⟩⟩⟩ (by kernel_rfl)

/-! ### slices.Concat[[]barscan/aztext.edge,barscan/aztext.edge]: function 25 -/

noncomputable def F25.J4 (call : CT) (lf ro : Nat) (kb3 : (Option Addr) → Nat → Nat → Int → (Option Addr) → Nat → Nat → Int → Int → Heap → Out) (a7 : Option Addr) (l7 : Nat) (c7 : Nat) (n8 : Int) (a9 : Option Addr) (l9 : Nat) (c9 : Nat) (n10 : Int) (n11 : Int) (h12 : Heap) : Out :=
  bindO (idxO Tryd.prog 93 (.slice a9 l9 c9) (.int .i64 n11) h12) fun v28 h29 =>
  bindO (loadO Tryd.prog 50 v28 h29) fun v30 h31 =>
  sliceK v30 fun a32 l32 c32 =>
  ifK (decide (IntKind.i64.wrap (n8 + (l32 : Int)) < 0)) (Out.panic (.iface 9 (.string (⟨#[108, 101, 110, 32, 111, 117, 116, 32, 111, 102, 32, 114, 97, 110, 103, 101]⟩ : ByteArray))) h31) (kb3 a7 l7 c7 (IntKind.i64.wrap (n8 + (l32 : Int))) a9 l9 c9 n10 (IntKind.i64.wrap (n11 + 1)) h31)

noncomputable def F25.PJ4 (kb : (Option Addr) → Nat → Nat → Int → (Option Addr) → Nat → Nat → Int → Int → Heap → Out) (e : Env) (h : Heap) : Out :=
  getK (e.get 0) fun w0 =>
  sliceK w0 fun a33 l33 c33 =>
  getK (e.get 3) fun w3 =>
  intK .i64 w3 fun n34 =>
  getK (e.get 9) fun w9 =>
  sliceK w9 fun a35 l35 c35 =>
  getK (e.get 10) fun w10 =>
  intK .i64 w10 fun n36 =>
  getK (e.get 11) fun w11 =>
  intK .i64 w11 fun n37 =>
  kb a33 l33 c33 n34 a35 l35 c35 n36 n37 h

noncomputable def F25.L11 (call : CT) (lf ro : Nat) : Nat → (Option Addr) → Nat → Nat → (Option Addr) → Nat → Nat → Int → Int → Heap → Out
  | 0, _, _, _, _, _, _, _, _, _ => .fail
  | n + 1, a47, l47, c47, a48, l48, c48, n49, n50, h51 =>
  letJ ((Out.ok (.slice a47 l47 c47) h51)) fun j81 =>
  ifK (decide (n50 < n49)) (bindO (idxO Tryd.prog 93 (.slice a48 l48 c48) (.int .i64 n50) h51) fun v100 h101 =>
  bindO (loadO Tryd.prog 50 v100 h101) fun v102 h103 =>
  sliceK v102 fun a104 l104 c104 =>
  bindO (appO Tryd.prog ro 50 50 (.slice a47 l47 c47) (.slice a104 l104 c104) h103) fun v108 h109 =>
  sliceK v108 fun a110 l110 c110 =>
  F25.L11 call lf ro n a110 l110 c110 a48 l48 c48 n49 (IntKind.i64.wrap (n50 + 1)) h109) (j81)

noncomputable def F25.P11 (kb : (Option Addr) → Nat → Nat → (Option Addr) → Nat → Nat → Int → Int → Heap → Out) (e : Env) (h : Heap) : Out :=
  getK (e.get 6) fun w6 =>
  sliceK w6 fun a111 l111 c111 =>
  getK (e.get 25) fun w25 =>
  sliceK w25 fun a112 l112 c112 =>
  getK (e.get 26) fun w26 =>
  intK .i64 w26 fun n113 =>
  getK (e.get 27) fun w27 =>
  intK .i64 w27 fun n114 =>
  kb a111 l111 c111 a112 l112 c112 n113 n114 h

noncomputable def F25.J9 (call : CT) (lf ro : Nat) (a38 : Option Addr) (l38 : Nat) (c38 : Nat) (n39 : Int) (h40 : Heap) : Out :=
  bindO (call ro 50 [.slice none 0 0, .int .i64 n39] h40) fun v44 h45 =>
  sliceK v44 fun a46 l46 c46 =>
  F25.L11 call lf ro lf a46 l46 c46 a38 l38 c38 (l38 : Int) 0 h45

noncomputable def F25.PJ9 (kb : (Option Addr) → Nat → Nat → Int → Heap → Out) (e : Env) (h : Heap) : Out :=
  getK (e.get 0) fun w0 =>
  sliceK w0 fun a115 l115 c115 =>
  getK (e.get 3) fun w3 =>
  intK .i64 w3 fun n116 =>
  kb a115 l115 c115 n116 h

noncomputable def F25.L3 (call : CT) (lf ro : Nat) : Nat → (Option Addr) → Nat → Nat → Int → (Option Addr) → Nat → Nat → Int → Int → Heap → Out
  | 0, _, _, _, _, _, _, _, _, _, _ => .fail
  | n + 1, a1, l1, c1, n2, a3, l3, c3, n4, n5, h6 =>
  ifK (decide (n5 < n4)) (F25.J4 call lf ro (F25.L3 call lf ro n) a1 l1 c1 n2 a3 l3 c3 n4 n5 h6) (F25.J9 call lf ro a1 l1 c1 n2 h6)

noncomputable def F25.P3 (kb : (Option Addr) → Nat → Nat → Int → (Option Addr) → Nat → Nat → Int → Int → Heap → Out) (e : Env) (h : Heap) : Out :=
  getK (e.get 0) fun w0 =>
  sliceK w0 fun a117 l117 c117 =>
  getK (e.get 3) fun w3 =>
  intK .i64 w3 fun n118 =>
  getK (e.get 9) fun w9 =>
  sliceK w9 fun a119 l119 c119 =>
  getK (e.get 10) fun w10 =>
  intK .i64 w10 fun n120 =>
  getK (e.get 11) fun w11 =>
  intK .i64 w11 fun n121 =>
  kb a117 l117 c117 n118 a119 l119 c119 n120 n121 h

noncomputable def F25.t (call : CT) (lf ro : Nat) (ax0 : Option Addr) (lx0 : Nat) (cx0 : Nat) (h : Heap) : Out :=
  F25.L3 call lf ro lf ax0 lx0 cx0 0 ax0 lx0 cx0 (lx0 : Int) 0 h

noncomputable def F25.Ht (call : CT) (lf ro : Nat) (i : Nat) (e : Env) (h : Heap) : Out := ifK (i == 11) (F25.P11 (F25.L11 call lf ro lf) e h) (ifK (i == 3) (F25.P3 (F25.L3 call lf ro lf) e h) (.fail))
noncomputable def F25.Ut (call : CT) (lf ro : Nat) (i : Nat) : Option (Env → Heap → Out) := ifJ (i == 9) (some (F25.PJ9 (F25.J9 call lf ro))) (none)

noncomputable def F25.H11 (call : CT) (lf ro : Nat) (kb11 : (Option Addr) → Nat → Nat → (Option Addr) → Nat → Nat → Int → Int → Heap → Out) (i : Nat) (e : Env) (h : Heap) : Out := ifK (i == 11) (F25.P11 (F25.L11 call lf ro lf) e h) (ifK (i == 3) (F25.P3 (F25.L3 call lf ro lf) e h) (.fail))
noncomputable def F25.U11 (call : CT) (lf ro : Nat) (kb11 : (Option Addr) → Nat → Nat → (Option Addr) → Nat → Nat → Int → Int → Heap → Out) (i : Nat) : Option (Env → Heap → Out) := ifJ (i == 9) (some (F25.PJ9 (F25.J9 call lf ro))) (none)

noncomputable def F25.H3 (call : CT) (lf ro : Nat) (kb3 : (Option Addr) → Nat → Nat → Int → (Option Addr) → Nat → Nat → Int → Int → Heap → Out) (i : Nat) (e : Env) (h : Heap) : Out := ifK (i == 11) (F25.P11 (F25.L11 call lf ro lf) e h) (ifK (i == 3) (F25.P3 (F25.L3 call lf ro lf) e h) (.fail))
noncomputable def F25.U3 (call : CT) (lf ro : Nat) (kb3 : (Option Addr) → Nat → Nat → Int → (Option Addr) → Nat → Nat → Int → Int → Heap → Out) (i : Nat) : Option (Env → Heap → Out) := ifJ (i == 9) (some (F25.PJ9 (F25.J9 call lf ro))) (ifJ (i == 4) (some (F25.PJ4 (F25.J4 call lf ro kb3))) (none))

noncomputable def F25.C11 (call : CT) (lf ro : Nat) : COut → Out := blockK 2 (seqH Tryd.prog call ro (F25.Ht call lf ro) (F25.Ut call lf ro) (sub (codeOf Tryd.f25) [true, true, true, true, true]) (endK Tryd.prog Tryd.f25))

noncomputable def F25.K11 (call : CT) (lf ro : Nat) : COut → Out := blockK 2 (seqK Tryd.prog call lf ro (sub (codeOf Tryd.f25) [true, true, true, true, true]) (endK Tryd.prog Tryd.f25))

noncomputable def F25.C3 (call : CT) (lf ro : Nat) : COut → Out := blockK 0 (seqH Tryd.prog call ro (F25.Ht call lf ro) (F25.Ut call lf ro) (sub (codeOf Tryd.f25) [true, true, true]) (endK Tryd.prog Tryd.f25))

noncomputable def F25.K3 (call : CT) (lf ro : Nat) : COut → Out := blockK 0 (seqK Tryd.prog call lf ro (sub (codeOf Tryd.f25) [true, true, true]) (endK Tryd.prog Tryd.f25))

noncomputable def F25.CJ9 (call : CT) (lf ro : Nat) : COut → Out := endK Tryd.prog Tryd.f25

noncomputable def F25.KJ9 (call : CT) (lf ro : Nat) : COut → Out := endK Tryd.prog Tryd.f25

noncomputable def F25.CJ4 (call : CT) (lf ro : Nat) (kb3 : (Option Addr) → Nat → Nat → Int → (Option Addr) → Nat → Nat → Int → Int → Heap → Out) : COut → Out := outK (F25.P3 kb3) (fun i e h => F25.C3 call lf ro (.exit i e h)) (fun e h => F25.C3 call lf ro (.ret e h))

noncomputable def F25.KJ4 (call : CT) (lf ro : Nat) (kb3 : (Option Addr) → Nat → Nat → Int → (Option Addr) → Nat → Nat → Int → Int → Heap → Out) : COut → Out := outK (F25.P3 kb3) (fun i e h => F25.C3 call lf ro (.exit i e h)) (fun e h => F25.C3 call lf ro (.ret e h))

theorem F25.RJ4 (call : CT) (lf ro : Nat) (kb3 : (Option Addr) → Nat → Nat → Int → (Option Addr) → Nat → Nat → Int → Int → Heap → Out) (f : Nat → Option Value) (a7 : Option Addr) (l7 : Nat) (c7 : Nat) (n8 : Int) (a9 : Option Addr) (l9 : Nat) (c9 : Nat) (n10 : Int) (n11 : Int) (h12 : Heap) :
    execH Tryd.prog call ro (F25.H3 call lf ro kb3) (F25.U3 call lf ro kb3) (sub (codeOf Tryd.f25) [true, true, false, true, false, false, true, true]) (EF 36 (updF (updF (updF (updF (updF f 0 (some (.slice a7 l7 c7))) 3 (some (.int .i64 n8))) 9 (some (.slice a9 l9 c9))) 10 (some (.int .i64 n10))) 11 (some (.int .i64 n11)))) h12 (F25.CJ4 call lf ro kb3) = F25.J4 call lf ro kb3 a7 l7 c7 n8 a9 l9 c9 n10 n11 h12 := by kernel_rfl

theorem F25.CKJ4 (call : CT) (lf ro : Nat) (kb3 : (Option Addr) → Nat → Nat → Int → (Option Addr) → Nat → Nat → Int → Int → Heap → Out) : KLe 36 (F25.CJ4 call lf ro kb3) (F25.KJ4 call lf ro kb3) :=
  (KLe.refl _)

theorem F25.BJ4 (call : CT) (lf ro : Nat) (kb3 : (Option Addr) → Nat → Nat → Int → (Option Addr) → Nat → Nat → Int → Int → Heap → Out) : ∀ e h, Shaped 36 e → LeO (F25.PJ4 (F25.J4 call lf ro kb3) e h) (execK Tryd.prog call lf ro (sub (codeOf Tryd.f25) [true, true, false, true, false, false, true, true]) e h (F25.KJ4 call lf ro kb3)) := by
    rintro e h ⟨f, rfl⟩
    unfold F25.PJ4
    refine getK_le fun w0 g0 => ?_
    rw [EF_get (by decide)] at g0
    refine sliceK_le fun a33 l33 c33 z122 => ?_
    subst z122
    refine getK_le fun w3 g3 => ?_
    rw [EF_get (by decide)] at g3
    refine intK_le fun n34 z123 => ?_
    subst z123
    refine getK_le fun w9 g9 => ?_
    rw [EF_get (by decide)] at g9
    refine sliceK_le fun a35 l35 c35 z124 => ?_
    subst z124
    refine getK_le fun w10 g10 => ?_
    rw [EF_get (by decide)] at g10
    refine intK_le fun n36 z125 => ?_
    subst z125
    refine getK_le fun w11 g11 => ?_
    rw [EF_get (by decide)] at g11
    refine intK_le fun n37 z126 => ?_
    subst z126
    have hr := F25.RJ4 call lf ro kb3 f a33 l33 c33 n34 a35 l35 c35 n36 n37 h
    rw [updF_same g0, updF_same g3, updF_same g9, updF_same g10, updF_same g11] at hr
    exact cut_le (H := (F25.H3 call lf ro kb3)) (J := (F25.U3 call lf ro kb3)) (F25.CKJ4 call lf ro kb3) (hd_free rfl) hr

theorem F25.R11 (call : CT) (lf ro : Nat) (n : Nat) (f : Nat → Option Value) (a47 : Option Addr) (l47 : Nat) (c47 : Nat) (a48 : Option Addr) (l48 : Nat) (c48 : Nat) (n49 : Int) (n50 : Int) (h51 : Heap) :
    execH Tryd.prog call ro (F25.H11 call lf ro (F25.L11 call lf ro n)) (F25.U11 call lf ro (F25.L11 call lf ro n)) (sub (codeOf Tryd.f25) [true, true, true, true, false, true, false, false]) (EF 36 (updF (updF (updF (updF f 6 (some (.slice a47 l47 c47))) 25 (some (.slice a48 l48 c48))) 26 (some (.int .i64 n49))) 27 (some (.int .i64 n50)))) h51 (outK (F25.P11 (F25.L11 call lf ro n)) (fun i e h => F25.C11 call lf ro (.exit i e h)) (fun e h => F25.C11 call lf ro (.ret e h))) = F25.L11 call lf ro (n + 1) a47 l47 c47 a48 l48 c48 n49 n50 h51 := by kernel_rfl

theorem F25.CK11 (call : CT) (lf ro : Nat) : KLe 36 (F25.C11 call lf ro) (F25.K11 call lf ro) :=
  (KLe.block (KLe.seq (H := (F25.Ht call lf ro)) (J := (F25.Ut call lf ro)) (KLe.refl _) (hd_free rfl)))

theorem F25.B11 (call : CT) (lf ro : Nat) : ∀ n e h, Shaped 36 e → LeO (F25.P11 (F25.L11 call lf ro n) e h) (loopK (execK Tryd.prog call lf ro (sub (codeOf Tryd.f25) [true, true, true, true, false, true, false, false])) n e h (F25.K11 call lf ro)) := by
  refine loop_le (fun e h k k' hs hk => execK_mono _ e h k k' hs hk) (kb := fun n => F25.P11 (F25.L11 call lf ro n)) (kx := fun i e h => F25.C11 call lf ro (.exit i e h)) (kr := fun e h => F25.C11 call lf ro (.ret e h)) ?_ ?_ (fun i e h hs => (F25.CK11 call lf ro).exit i e h hs) (fun e h hs => (F25.CK11 call lf ro).ret e h hs)
  · rintro e h ⟨f, rfl⟩
    unfold F25.P11
    refine getK_le fun w6 g6 => ?_
    rw [EF_get (by decide)] at g6
    refine sliceK_le fun a111 l111 c111 z132 => ?_
    subst z132
    refine getK_le fun w25 g25 => ?_
    rw [EF_get (by decide)] at g25
    refine sliceK_le fun a112 l112 c112 z133 => ?_
    subst z133
    refine getK_le fun w26 g26 => ?_
    rw [EF_get (by decide)] at g26
    refine intK_le fun n113 z134 => ?_
    subst z134
    refine getK_le fun w27 g27 => ?_
    rw [EF_get (by decide)] at g27
    refine intK_le fun n114 z135 => ?_
    subst z135
    exact LeO.refl _
  · rintro n e h ⟨f, rfl⟩
    unfold F25.P11
    refine getK_le fun w6 g6 => ?_
    rw [EF_get (by decide)] at g6
    refine sliceK_le fun a111 l111 c111 z136 => ?_
    subst z136
    refine getK_le fun w25 g25 => ?_
    rw [EF_get (by decide)] at g25
    refine sliceK_le fun a112 l112 c112 z137 => ?_
    subst z137
    refine getK_le fun w26 g26 => ?_
    rw [EF_get (by decide)] at g26
    refine intK_le fun n113 z138 => ?_
    subst z138
    refine getK_le fun w27 g27 => ?_
    rw [EF_get (by decide)] at g27
    refine intK_le fun n114 z139 => ?_
    subst z139
    have hr := F25.R11 call lf ro n f a111 l111 c111 a112 l112 c112 n113 n114 h
    rw [updF_same g6, updF_same g25, updF_same g26, updF_same g27] at hr
    exact round_le (H := (F25.H11 call lf ro (F25.L11 call lf ro n))) (J := (F25.U11 call lf ro (F25.L11 call lf ro n))) (hd_free rfl) hr

theorem F25.RJ9 (call : CT) (lf ro : Nat) (f : Nat → Option Value) (a38 : Option Addr) (l38 : Nat) (c38 : Nat) (n39 : Int) (h40 : Heap) :
    execH Tryd.prog call ro (F25.Ht call lf ro) (F25.Ut call lf ro) (sub (codeOf Tryd.f25) [true, true, true]) (EF 36 (updF (updF f 0 (some (.slice a38 l38 c38))) 3 (some (.int .i64 n39)))) h40 (F25.CJ9 call lf ro) = F25.J9 call lf ro a38 l38 c38 n39 h40 := by kernel_rfl

theorem F25.CKJ9 (call : CT) (lf ro : Nat) : KLe 36 (F25.CJ9 call lf ro) (F25.KJ9 call lf ro) :=
  (KLe.refl _)

theorem F25.BJ9 (call : CT) (lf ro : Nat) : ∀ e h, Shaped 36 e → LeO (F25.PJ9 (F25.J9 call lf ro) e h) (execK Tryd.prog call lf ro (sub (codeOf Tryd.f25) [true, true, true]) e h (F25.KJ9 call lf ro)) := by
    rintro e h ⟨f, rfl⟩
    unfold F25.PJ9
    refine getK_le fun w0 g0 => ?_
    rw [EF_get (by decide)] at g0
    refine sliceK_le fun a115 l115 c115 z140 => ?_
    subst z140
    refine getK_le fun w3 g3 => ?_
    rw [EF_get (by decide)] at g3
    refine intK_le fun n116 z141 => ?_
    subst z141
    have hr := F25.RJ9 call lf ro f a115 l115 c115 n116 h
    rw [updF_same g0, updF_same g3] at hr
    exact cut_le (H := (F25.Ht call lf ro)) (J := (F25.Ut call lf ro)) (F25.CKJ9 call lf ro) ⟨(hd_free rfl), ⟨⟨(hd_free rfl), (fun e h hs => F25.B11 call lf ro  lf e h hs)⟩, (hd_free rfl)⟩⟩ hr

theorem F25.R3 (call : CT) (lf ro : Nat) (n : Nat) (f : Nat → Option Value) (a1 : Option Addr) (l1 : Nat) (c1 : Nat) (n2 : Int) (a3 : Option Addr) (l3 : Nat) (c3 : Nat) (n4 : Int) (n5 : Int) (h6 : Heap) :
    execH Tryd.prog call ro (F25.H3 call lf ro (F25.L3 call lf ro n)) (F25.U3 call lf ro (F25.L3 call lf ro n)) (sub (codeOf Tryd.f25) [true, true, false, true, false, false]) (EF 36 (updF (updF (updF (updF (updF f 0 (some (.slice a1 l1 c1))) 3 (some (.int .i64 n2))) 9 (some (.slice a3 l3 c3))) 10 (some (.int .i64 n4))) 11 (some (.int .i64 n5)))) h6 (outK (F25.P3 (F25.L3 call lf ro n)) (fun i e h => F25.C3 call lf ro (.exit i e h)) (fun e h => F25.C3 call lf ro (.ret e h))) = F25.L3 call lf ro (n + 1) a1 l1 c1 n2 a3 l3 c3 n4 n5 h6 := by kernel_rfl

theorem F25.CK3 (call : CT) (lf ro : Nat) : KLe 36 (F25.C3 call lf ro) (F25.K3 call lf ro) :=
  (KLe.block (KLe.seq (H := (F25.Ht call lf ro)) (J := (F25.Ut call lf ro)) (KLe.refl _) (fun e h hs => F25.BJ9 call lf ro  e h hs)))

theorem F25.B3 (call : CT) (lf ro : Nat) : ∀ n e h, Shaped 36 e → LeO (F25.P3 (F25.L3 call lf ro n) e h) (loopK (execK Tryd.prog call lf ro (sub (codeOf Tryd.f25) [true, true, false, true, false, false])) n e h (F25.K3 call lf ro)) := by
  refine loop_le (fun e h k k' hs hk => execK_mono _ e h k k' hs hk) (kb := fun n => F25.P3 (F25.L3 call lf ro n)) (kx := fun i e h => F25.C3 call lf ro (.exit i e h)) (kr := fun e h => F25.C3 call lf ro (.ret e h)) ?_ ?_ (fun i e h hs => (F25.CK3 call lf ro).exit i e h hs) (fun e h hs => (F25.CK3 call lf ro).ret e h hs)
  · rintro e h ⟨f, rfl⟩
    unfold F25.P3
    refine getK_le fun w0 g0 => ?_
    rw [EF_get (by decide)] at g0
    refine sliceK_le fun a117 l117 c117 z144 => ?_
    subst z144
    refine getK_le fun w3 g3 => ?_
    rw [EF_get (by decide)] at g3
    refine intK_le fun n118 z145 => ?_
    subst z145
    refine getK_le fun w9 g9 => ?_
    rw [EF_get (by decide)] at g9
    refine sliceK_le fun a119 l119 c119 z146 => ?_
    subst z146
    refine getK_le fun w10 g10 => ?_
    rw [EF_get (by decide)] at g10
    refine intK_le fun n120 z147 => ?_
    subst z147
    refine getK_le fun w11 g11 => ?_
    rw [EF_get (by decide)] at g11
    refine intK_le fun n121 z148 => ?_
    subst z148
    exact LeO.refl _
  · rintro n e h ⟨f, rfl⟩
    unfold F25.P3
    refine getK_le fun w0 g0 => ?_
    rw [EF_get (by decide)] at g0
    refine sliceK_le fun a117 l117 c117 z149 => ?_
    subst z149
    refine getK_le fun w3 g3 => ?_
    rw [EF_get (by decide)] at g3
    refine intK_le fun n118 z150 => ?_
    subst z150
    refine getK_le fun w9 g9 => ?_
    rw [EF_get (by decide)] at g9
    refine sliceK_le fun a119 l119 c119 z151 => ?_
    subst z151
    refine getK_le fun w10 g10 => ?_
    rw [EF_get (by decide)] at g10
    refine intK_le fun n120 z152 => ?_
    subst z152
    refine getK_le fun w11 g11 => ?_
    rw [EF_get (by decide)] at g11
    refine intK_le fun n121 z153 => ?_
    subst z153
    have hr := F25.R3 call lf ro n f a117 l117 c117 n118 a119 l119 c119 n120 n121 h
    rw [updF_same g0, updF_same g3, updF_same g9, updF_same g10, updF_same g11] at hr
    exact round_le (H := (F25.H3 call lf ro (F25.L3 call lf ro n))) (J := (F25.U3 call lf ro (F25.L3 call lf ro n))) ⟨(hd_free rfl), ⟨(hd_free rfl), (fun e h hs => F25.BJ4 call lf ro (F25.L3 call lf ro n) e h hs)⟩⟩ hr

theorem F25.le (call : CT) (lf ro : Nat) (ax0 : Option Addr) (lx0 : Nat) (cx0 : Nat) (h : Heap) : LeO (F25.t call lf ro ax0 lx0 cx0 h) (bodyK Tryd.prog call lf ro Tryd.f25 [.slice ax0 lx0 cx0] h) :=
  body_le (c := codeOf Tryd.f25) (H := F25.Ht call lf ro) (J := F25.Ut call lf ro) rfl (Nat.le_of_ble_eq_true rfl) ⟨(hd_free rfl), ⟨(hd_free rfl), ⟨⟨(hd_free rfl), (fun e h hs => F25.B3 call lf ro  lf e h hs)⟩, (fun e h hs => F25.BJ9 call lf ro  e h hs)⟩⟩⟩ (by kernel_rfl)

/-! ### (*barscan/aztext.encoder).chars: function 26 -/

noncomputable def F26.J12 (call : CT) (lf ro : Nat) (kb4 : Nat → Nat → Nat → Nat → (Option Addr) → Nat → Nat → Int → Int → Int → Heap → Out) (kb11 : Nat → Nat → Nat → Nat → (Option Addr) → Nat → Nat → Int → Int → Int → Int → (Option Addr) → Nat → Nat → Int → Int → Heap → Out) (p146 : Nat) (o146 : Nat) (p147 : Nat) (o147 : Nat) (a148 : Option Addr) (l148 : Nat) (c148 : Nat) (n149 : Int) (n150 : Int) (n151 : Int) (n152 : Int) (a153 : Option Addr) (l153 : Nat) (c153 : Nat) (n154 : Int) (n155 : Int) (h156 : Heap) : Out :=
  letJ (fun (a688 : Option Addr) (l688 : Nat) (c688 : Nat) (h689 : Heap) =>
  (kb11 p146 o146 p147 o147 a688 l688 c688 n149 n150 n151 n152 a153 l153 c153 n154 (IntKind.i64.wrap (n155 + 1)) h689)) fun j690 =>
  bindO (idxO Tryd.prog 57 (.slice a153 l153 c153) (.int .i64 n155) h156) fun v696 h697 =>
  bindO (loadO Tryd.prog 9 v696 h697) fun v698 h699 =>
  strK v698 fun s700 =>
  bindO (loadO Tryd.prog 3 (.pointer (some ⟨p147, o147 + 0, none⟩)) h699) fun v707 h708 =>
  intK .i64 v707 fun n709 =>
  bindO (call ro 52 [.pointer (some ⟨p146, o146, none⟩), .int .i64 n709, .string s700] h708) fun v710 h711 =>
  boolK v710 fun b712 =>
  ifK b712 (pushJ h711 1 [.int .i64 n150, .int .i64 n155] fun h713 =>
  pushJ h713 1 [.int .i64 n149, .int .i64 5] fun h714 =>
  bindO (loadO Tryd.prog 3 (.pointer (some ⟨p147, o147 + 0, none⟩)) h714) fun v715 h716 =>
  intK .i64 v715 fun n717 =>
  bindO (loadO Tryd.prog 3 (.pointer (some ⟨p147, o147 + 1, none⟩)) h716) fun v718 h719 =>
  intK .i64 v718 fun n720 =>
  pushJ h719 5 [.slice (some ⟨h711.next, 0, none⟩) 2 2, .slice (some ⟨h713.next, 0, none⟩) 2 2, .int .i64 0, .int .i64 (IntKind.i64.wrap (n717 + (s700.size : Int))), .int .i64 n720] fun h721 =>
  bindO (appO Tryd.prog ro 50 50 (.slice a148 l148 c148) (.slice (some ⟨h719.next, 0, none⟩) 1 1) h721) fun v722 h723 =>
  sliceK v722 fun a724 l724 c724 =>
  j690 a724 l724 c724 h723) (j690 a148 l148 c148 h711)

noncomputable def F26.PJ12 (kb : Nat → Nat → Nat → Nat → (Option Addr) → Nat → Nat → Int → Int → Int → Int → (Option Addr) → Nat → Nat → Int → Int → Heap → Out) (e : Env) (h : Heap) : Out :=
  getK (e.get 0) fun w0 =>
  ptrK w0 fun p725 o725 =>
  getK (e.get 3) fun w3 =>
  ptrK w3 fun p726 o726 =>
  getK (e.get 5) fun w5 =>
  sliceK w5 fun a727 l727 c727 =>
  getK (e.get 6) fun w6 =>
  intK .i64 w6 fun n728 =>
  getK (e.get 7) fun w7 =>
  intK .i64 w7 fun n729 =>
  getK (e.get 15) fun w15 =>
  intK .i64 w15 fun n730 =>
  getK (e.get 16) fun w16 =>
  intK .i64 w16 fun n731 =>
  getK (e.get 81) fun w81 =>
  sliceK w81 fun a732 l732 c732 =>
  getK (e.get 82) fun w82 =>
  intK .i64 w82 fun n733 =>
  getK (e.get 83) fun w83 =>
  intK .i64 w83 fun n734 =>
  kb p725 o725 p726 o726 a727 l727 c727 n728 n729 n730 n731 a732 l732 c732 n733 n734 h

noncomputable def F26.L11 (call : CT) (lf ro : Nat) (kb4 : Nat → Nat → Nat → Nat → (Option Addr) → Nat → Nat → Int → Int → Int → Heap → Out) : Nat → Nat → Nat → Nat → Nat → (Option Addr) → Nat → Nat → Int → Int → Int → Int → (Option Addr) → Nat → Nat → Int → Int → Heap → Out
  | 0, _, _, _, _, _, _, _, _, _, _, _, _, _, _, _, _, _ => .fail
  | n + 1, p135, o135, p136, o136, a137, l137, c137, n138, n139, n140, n141, a142, l142, c142, n143, n144, h145 =>
  ifK (decide (n144 < n143)) (F26.J12 call lf ro kb4 (F26.L11 call lf ro kb4 n) p135 o135 p136 o136 a137 l137 c137 n138 n139 n140 n141 a142 l142 c142 n143 n144 h145) (kb4 p135 o135 p136 o136 a137 l137 c137 n138 n140 (IntKind.i64.wrap (n141 + 1)) h145)
  termination_by structural x => x

noncomputable def F26.P11 (kb : Nat → Nat → Nat → Nat → (Option Addr) → Nat → Nat → Int → Int → Int → Int → (Option Addr) → Nat → Nat → Int → Int → Heap → Out) (e : Env) (h : Heap) : Out :=
  getK (e.get 0) fun w0 =>
  ptrK w0 fun p735 o735 =>
  getK (e.get 3) fun w3 =>
  ptrK w3 fun p736 o736 =>
  getK (e.get 5) fun w5 =>
  sliceK w5 fun a737 l737 c737 =>
  getK (e.get 6) fun w6 =>
  intK .i64 w6 fun n738 =>
  getK (e.get 7) fun w7 =>
  intK .i64 w7 fun n739 =>
  getK (e.get 15) fun w15 =>
  intK .i64 w15 fun n740 =>
  getK (e.get 16) fun w16 =>
  intK .i64 w16 fun n741 =>
  getK (e.get 81) fun w81 =>
  sliceK w81 fun a742 l742 c742 =>
  getK (e.get 82) fun w82 =>
  intK .i64 w82 fun n743 =>
  getK (e.get 83) fun w83 =>
  intK .i64 w83 fun n744 =>
  kb p735 o735 p736 o736 a737 l737 c737 n738 n739 n740 n741 a742 l742 c742 n743 n744 h

noncomputable def F26.J10 (call : CT) (lf ro : Nat) (kb4 : Nat → Nat → Nat → Nat → (Option Addr) → Nat → Nat → Int → Int → Int → Heap → Out) (p116 : Nat) (o116 : Nat) (p117 : Nat) (o117 : Nat) (a118 : Option Addr) (l118 : Nat) (c118 : Nat) (n119 : Int) (n120 : Int) (n121 : Int) (n122 : Int) (n123 : Int) (h124 : Heap) : Out :=
  bindO (idxO Tryd.prog 58 (.pointer (some ⟨p116, o116 + 1, none⟩)) (.int .i64 n121) h124) fun v810 h811 =>
  bindO (loadO Tryd.prog 57 v810 h811) fun v812 h813 =>
  sliceK v812 fun a814 l814 c814 =>
  F26.L11 call lf ro kb4 lf p116 o116 p117 o117 a118 l118 c118 n119 n120 n122 n123 a814 l814 c814 (l814 : Int) 0 h813

noncomputable def F26.PJ10 (kb : Nat → Nat → Nat → Nat → (Option Addr) → Nat → Nat → Int → Int → Int → Int → Int → Heap → Out) (e : Env) (h : Heap) : Out :=
  getK (e.get 0) fun w0 =>
  ptrK w0 fun p815 o815 =>
  getK (e.get 3) fun w3 =>
  ptrK w3 fun p816 o816 =>
  getK (e.get 5) fun w5 =>
  sliceK w5 fun a817 l817 c817 =>
  getK (e.get 6) fun w6 =>
  intK .i64 w6 fun n818 =>
  getK (e.get 7) fun w7 =>
  intK .i64 w7 fun n819 =>
  getK (e.get 8) fun w8 =>
  intK .i64 w8 fun n820 =>
  getK (e.get 15) fun w15 =>
  intK .i64 w15 fun n821 =>
  getK (e.get 16) fun w16 =>
  intK .i64 w16 fun n822 =>
  kb p815 o815 p816 o816 a817 l817 c817 n818 n819 n820 n821 n822 h

noncomputable def F26.J8 (call : CT) (lf ro : Nat) (kb4 : Nat → Nat → Nat → Nat → (Option Addr) → Nat → Nat → Int → Int → Int → Heap → Out) (p96 : Nat) (o96 : Nat) (p97 : Nat) (o97 : Nat) (a98 : Option Addr) (l98 : Nat) (c98 : Nat) (n99 : Int) (n100 : Int) (n101 : Int) (n102 : Int) (h103 : Heap) : Out :=
  bindO (loadO Tryd.prog 3 (.pointer (some ⟨p97, o97 + 1, none⟩)) h103) fun v901 h902 =>
  intK .i64 v901 fun n903 =>
  bindO (call ro 53 [.int .i64 n903, .int .i64 n100] h902) fun v904 h905 =>
  intK .i64 v904 fun n906 =>
  ifK (decide (n906 < 0)) (kb4 p96 o96 p97 o97 a98 l98 c98 n99 n101 (IntKind.i64.wrap (n102 + 1)) h905) (F26.J10 call lf ro kb4 p96 o96 p97 o97 a98 l98 c98 n99 n100 n906 n101 n102 h905)

noncomputable def F26.PJ8 (kb : Nat → Nat → Nat → Nat → (Option Addr) → Nat → Nat → Int → Int → Int → Int → Heap → Out) (e : Env) (h : Heap) : Out :=
  getK (e.get 0) fun w0 =>
  ptrK w0 fun p907 o907 =>
  getK (e.get 3) fun w3 =>
  ptrK w3 fun p908 o908 =>
  getK (e.get 5) fun w5 =>
  sliceK w5 fun a909 l909 c909 =>
  getK (e.get 6) fun w6 =>
  intK .i64 w6 fun n910 =>
  getK (e.get 7) fun w7 =>
  intK .i64 w7 fun n911 =>
  getK (e.get 15) fun w15 =>
  intK .i64 w15 fun n912 =>
  getK (e.get 16) fun w16 =>
  intK .i64 w16 fun n913 =>
  kb p907 o907 p908 o908 a909 l909 c909 n910 n911 n912 n913 h

noncomputable def F26.J7 (call : CT) (lf ro : Nat) (kb4 : Nat → Nat → Nat → Nat → (Option Addr) → Nat → Nat → Int → Int → Int → Heap → Out) (p62 : Nat) (o62 : Nat) (p63 : Nat) (o63 : Nat) (a64 : Option Addr) (l64 : Nat) (c64 : Nat) (n65 : Int) (n66 : Int) (n67 : Int) (n68 : Int) (b69 : Bool) (h70 : Heap) : Out :=
  ifK b69 (pushJ h70 1 [.int .i64 n66] fun h964 =>
  pushJ h964 1 [.int .i64 n65] fun h965 =>
  bindN (loadO Tryd.prog 3 (.pointer (some ⟨p63, o63 + 0, none⟩)) h965) fun v966 h967 =>
  intK .i64 v966 fun n968 =>
  bindN (loadO Tryd.prog 3 (.pointer (some ⟨p63, o63 + 1, none⟩)) h967) fun v969 h970 =>
  intK .i64 v969 fun n971 =>
  bindN (idxO Tryd.prog 58 (.pointer (some ⟨p62, o62 + 1, none⟩)) (.int .i64 n971) h970) fun v972 h973 =>
  bindN (loadO Tryd.prog 57 v972 h973) fun v974 h975 =>
  sliceK v974 fun a976 l976 c976 =>
  bindN (idxO Tryd.prog 57 (.slice a976 l976 c976) (.int .i64 n66) h975) fun v977 h978 =>
  bindN (loadO Tryd.prog 9 v977 h978) fun v979 h980 =>
  strK v979 fun s981 =>
  bindN (loadO Tryd.prog 3 (.pointer (some ⟨p63, o63 + 1, none⟩)) h980) fun v982 h983 =>
  intK .i64 v982 fun n984 =>
  pushJ h983 5 [.slice (some ⟨h70.next, 0, none⟩) 1 1, .slice (some ⟨h964.next, 0, none⟩) 1 1, .int .i64 0, .int .i64 (IntKind.i64.wrap (n968 + (s981.size : Int))), .int .i64 n984] fun h985 =>
  bindO (appO Tryd.prog ro 50 50 (.slice a64 l64 c64) (.slice (some ⟨h983.next, 0, none⟩) 1 1) h985) fun v986 h987 =>
  sliceK v986 fun a988 l988 c988 =>
  F26.J8 call lf ro kb4 p62 o62 p63 o63 a988 l988 c988 n65 n66 n67 n68 h987) (F26.J8 call lf ro kb4 p62 o62 p63 o63 a64 l64 c64 n65 n66 n67 n68 h70)

noncomputable def F26.PJ7 (kb : Nat → Nat → Nat → Nat → (Option Addr) → Nat → Nat → Int → Int → Int → Int → Bool → Heap → Out) (e : Env) (h : Heap) : Out :=
  getK (e.get 0) fun w0 =>
  ptrK w0 fun p989 o989 =>
  getK (e.get 3) fun w3 =>
  ptrK w3 fun p990 o990 =>
  getK (e.get 5) fun w5 =>
  sliceK w5 fun a991 l991 c991 =>
  getK (e.get 6) fun w6 =>
  intK .i64 w6 fun n992 =>
  getK (e.get 7) fun w7 =>
  intK .i64 w7 fun n993 =>
  getK (e.get 15) fun w15 =>
  intK .i64 w15 fun n994 =>
  getK (e.get 16) fun w16 =>
  intK .i64 w16 fun n995 =>
  getK (e.get 44) fun w44 =>
  boolK w44 fun b996 =>
  kb p989 o989 p990 o990 a991 l991 c991 n992 n993 n994 n995 b996 h

noncomputable def F26.J5 (call : CT) (lf ro : Nat) (kb4 : Nat → Nat → Nat → Nat → (Option Addr) → Nat → Nat → Int → Int → Int → Heap → Out) (p28 : Nat) (o28 : Nat) (p29 : Nat) (o29 : Nat) (a30 : Option Addr) (l30 : Nat) (c30 : Nat) (n31 : Int) (n32 : Int) (n33 : Int) (h34 : Heap) : Out :=
  bindN (loadO Tryd.prog 3 (.pointer (some ⟨p29, o29 + 1, none⟩)) h34) fun v1051 h1052 =>
  intK .i64 v1051 fun n1053 =>
  bindN (idxO Tryd.prog 58 (.pointer (some ⟨p28, o28 + 1, none⟩)) (.int .i64 n1053) h1052) fun v1054 h1055 =>
  bindN (loadO Tryd.prog 57 v1054 h1055) fun v1056 h1057 =>
  sliceK v1056 fun a1058 l1058 c1058 =>
  ifK (decide (n33 < (l1058 : Int))) (bindN (loadO Tryd.prog 3 (.pointer (some ⟨p29, o29 + 0, none⟩)) h1057) fun v1059 h1060 =>
  intK .i64 v1059 fun n1061 =>
  bindN (loadO Tryd.prog 3 (.pointer (some ⟨p29, o29 + 1, none⟩)) h1060) fun v1062 h1063 =>
  intK .i64 v1062 fun n1064 =>
  bindN (idxO Tryd.prog 58 (.pointer (some ⟨p28, o28 + 1, none⟩)) (.int .i64 n1064) h1063) fun v1065 h1066 =>
  bindN (loadO Tryd.prog 57 v1065 h1066) fun v1067 h1068 =>
  sliceK v1067 fun a1069 l1069 c1069 =>
  bindN (idxO Tryd.prog 57 (.slice a1069 l1069 c1069) (.int .i64 n33) h1068) fun v1070 h1071 =>
  bindN (loadO Tryd.prog 9 v1070 h1071) fun v1072 h1073 =>
  strK v1072 fun s1074 =>
  bindO (call ro 52 [.pointer (some ⟨p28, o28, none⟩), .int .i64 n1061, .string s1074] h1073) fun v1075 h1076 =>
  boolK v1075 fun b1077 =>
  F26.J7 call lf ro kb4 p28 o28 p29 o29 a30 l30 c30 n31 n33 n32 n33 b1077 h1076) (F26.J7 call lf ro kb4 p28 o28 p29 o29 a30 l30 c30 n31 n33 n32 n33 false h1057)

noncomputable def F26.PJ5 (kb : Nat → Nat → Nat → Nat → (Option Addr) → Nat → Nat → Int → Int → Int → Heap → Out) (e : Env) (h : Heap) : Out :=
  getK (e.get 0) fun w0 =>
  ptrK w0 fun p1078 o1078 =>
  getK (e.get 3) fun w3 =>
  ptrK w3 fun p1079 o1079 =>
  getK (e.get 5) fun w5 =>
  sliceK w5 fun a1080 l1080 c1080 =>
  getK (e.get 6) fun w6 =>
  intK .i64 w6 fun n1081 =>
  getK (e.get 15) fun w15 =>
  intK .i64 w15 fun n1082 =>
  getK (e.get 16) fun w16 =>
  intK .i64 w16 fun n1083 =>
  kb p1078 o1078 p1079 o1079 a1080 l1080 c1080 n1081 n1082 n1083 h

noncomputable def F26.L4 (call : CT) (lf ro : Nat) : Nat → Nat → Nat → Nat → Nat → (Option Addr) → Nat → Nat → Int → Int → Int → Heap → Out
  | 0, _, _, _, _, _, _, _, _, _, _, _ => .fail
  | n + 1, p21, o21, p22, o22, a23, l23, c23, n24, n25, n26, h27 =>
  ifK (decide (n26 < n25)) (F26.J5 call lf ro (F26.L4 call lf ro n) p21 o21 p22 o22 a23 l23 c23 n24 n25 n26 h27) (Out.ok (.slice a23 l23 c23) h27)

noncomputable def F26.P4 (kb : Nat → Nat → Nat → Nat → (Option Addr) → Nat → Nat → Int → Int → Int → Heap → Out) (e : Env) (h : Heap) : Out :=
  getK (e.get 0) fun w0 =>
  ptrK w0 fun p1084 o1084 =>
  getK (e.get 3) fun w3 =>
  ptrK w3 fun p1085 o1085 =>
  getK (e.get 5) fun w5 =>
  sliceK w5 fun a1086 l1086 c1086 =>
  getK (e.get 6) fun w6 =>
  intK .i64 w6 fun n1087 =>
  getK (e.get 15) fun w15 =>
  intK .i64 w15 fun n1088 =>
  getK (e.get 16) fun w16 =>
  intK .i64 w16 fun n1089 =>
  kb p1084 o1084 p1085 o1085 a1086 l1086 c1086 n1087 n1088 n1089 h

noncomputable def F26.t (call : CT) (lf ro : Nat) (px0 : Nat) (ox0 : Nat) (x1_0 : Int) (x1_1 : Int) (h : Heap) : Out :=
  pushJ h 1 [.int .i64 x1_0, .int .i64 x1_1] fun h2 =>
  bindO (loadO Tryd.prog 3 (.pointer (some ⟨h.next, 1, none⟩)) h2) fun v9 h10 =>
  intK .i64 v9 fun n11 =>
  bindO (call ro 51 [.int .i64 n11] h10) fun v12 h13 =>
  intK .i64 v12 fun n14 =>
  bindO (binO Tryd.prog .shl 3 true (.int .i64 1) (.int .i64 n14) h13) fun v18 h19 =>
  intK .i64 v18 fun n20 =>
  F26.L4 call lf ro lf px0 ox0 h.next 0 none 0 0 n14 n20 0 h19

noncomputable def F26.Ht (call : CT) (lf ro : Nat) (i : Nat) (e : Env) (h : Heap) : Out := ifK (i == 4) (F26.P4 (F26.L4 call lf ro lf) e h) (.fail)
noncomputable def F26.Ut (call : CT) (lf ro : Nat) (i : Nat) : Option (Env → Heap → Out) := none

noncomputable def F26.H11 (call : CT) (lf ro : Nat) (kb4 : Nat → Nat → Nat → Nat → (Option Addr) → Nat → Nat → Int → Int → Int → Heap → Out) (kb11 : Nat → Nat → Nat → Nat → (Option Addr) → Nat → Nat → Int → Int → Int → Int → (Option Addr) → Nat → Nat → Int → Int → Heap → Out) (i : Nat) (e : Env) (h : Heap) : Out := ifK (i == 11) (F26.P11 (F26.L11 call lf ro kb4 lf) e h) (ifK (i == 4) (F26.P4 (F26.L4 call lf ro lf) e h) (.fail))
noncomputable def F26.U11 (call : CT) (lf ro : Nat) (kb4 : Nat → Nat → Nat → Nat → (Option Addr) → Nat → Nat → Int → Int → Int → Heap → Out) (kb11 : Nat → Nat → Nat → Nat → (Option Addr) → Nat → Nat → Int → Int → Int → Int → (Option Addr) → Nat → Nat → Int → Int → Heap → Out) (i : Nat) : Option (Env → Heap → Out) := ifJ (i == 12) (some (F26.PJ12 (F26.J12 call lf ro kb4 kb11))) (ifJ (i == 10) (some (F26.PJ10 (F26.J10 call lf ro kb4))) (ifJ (i == 8) (some (F26.PJ8 (F26.J8 call lf ro kb4))) (ifJ (i == 7) (some (F26.PJ7 (F26.J7 call lf ro kb4))) (ifJ (i == 5) (some (F26.PJ5 (F26.J5 call lf ro kb4))) (none)))))

noncomputable def F26.H4 (call : CT) (lf ro : Nat) (kb4 : Nat → Nat → Nat → Nat → (Option Addr) → Nat → Nat → Int → Int → Int → Heap → Out) (i : Nat) (e : Env) (h : Heap) : Out := ifK (i == 11) (F26.P11 (F26.L11 call lf ro kb4 lf) e h) (ifK (i == 4) (F26.P4 (F26.L4 call lf ro lf) e h) (.fail))
noncomputable def F26.U4 (call : CT) (lf ro : Nat) (kb4 : Nat → Nat → Nat → Nat → (Option Addr) → Nat → Nat → Int → Int → Int → Heap → Out) (i : Nat) : Option (Env → Heap → Out) := ifJ (i == 10) (some (F26.PJ10 (F26.J10 call lf ro kb4))) (ifJ (i == 8) (some (F26.PJ8 (F26.J8 call lf ro kb4))) (ifJ (i == 7) (some (F26.PJ7 (F26.J7 call lf ro kb4))) (ifJ (i == 5) (some (F26.PJ5 (F26.J5 call lf ro kb4))) (none))))

noncomputable def F26.C4 (call : CT) (lf ro : Nat) : COut → Out := blockK 0 (seqH Tryd.prog call ro (F26.Ht call lf ro) (F26.Ut call lf ro) (sub (codeOf Tryd.f26) [true, true, true, true]) (endK Tryd.prog Tryd.f26))

noncomputable def F26.K4 (call : CT) (lf ro : Nat) : COut → Out := blockK 0 (seqK Tryd.prog call lf ro (sub (codeOf Tryd.f26) [true, true, true, true]) (endK Tryd.prog Tryd.f26))

noncomputable def F26.C11 (call : CT) (lf ro : Nat) (kb4 : Nat → Nat → Nat → Nat → (Option Addr) → Nat → Nat → Int → Int → Int → Heap → Out) : COut → Out := blockK 2 (blockK 1 (seqH Tryd.prog call ro (F26.H4 call lf ro kb4) (F26.U4 call lf ro kb4) (sub (codeOf Tryd.f26) [true, true, true, false, true, false, false, true, true, true]) (outK (F26.P4 kb4) (fun i e h => F26.C4 call lf ro (.exit i e h)) (fun e h => F26.C4 call lf ro (.ret e h)))))

noncomputable def F26.K11 (call : CT) (lf ro : Nat) (kb4 : Nat → Nat → Nat → Nat → (Option Addr) → Nat → Nat → Int → Int → Int → Heap → Out) : COut → Out := blockK 2 (blockK 1 (seqK Tryd.prog call lf ro (sub (codeOf Tryd.f26) [true, true, true, false, true, false, false, true, true, true]) (outK (F26.P4 kb4) (fun i e h => F26.C4 call lf ro (.exit i e h)) (fun e h => F26.C4 call lf ro (.ret e h)))))

noncomputable def F26.CJ10 (call : CT) (lf ro : Nat) (kb4 : Nat → Nat → Nat → Nat → (Option Addr) → Nat → Nat → Int → Int → Int → Heap → Out) : COut → Out := blockK 1 (seqH Tryd.prog call ro (F26.H4 call lf ro kb4) (F26.U4 call lf ro kb4) (sub (codeOf Tryd.f26) [true, true, true, false, true, false, false, true, true, true]) (outK (F26.P4 kb4) (fun i e h => F26.C4 call lf ro (.exit i e h)) (fun e h => F26.C4 call lf ro (.ret e h))))

noncomputable def F26.KJ10 (call : CT) (lf ro : Nat) (kb4 : Nat → Nat → Nat → Nat → (Option Addr) → Nat → Nat → Int → Int → Int → Heap → Out) : COut → Out := blockK 1 (seqK Tryd.prog call lf ro (sub (codeOf Tryd.f26) [true, true, true, false, true, false, false, true, true, true]) (outK (F26.P4 kb4) (fun i e h => F26.C4 call lf ro (.exit i e h)) (fun e h => F26.C4 call lf ro (.ret e h))))

noncomputable def F26.CJ8 (call : CT) (lf ro : Nat) (kb4 : Nat → Nat → Nat → Nat → (Option Addr) → Nat → Nat → Int → Int → Int → Heap → Out) : COut → Out := blockK 1 (seqH Tryd.prog call ro (F26.H4 call lf ro kb4) (F26.U4 call lf ro kb4) (sub (codeOf Tryd.f26) [true, true, true, false, true, false, false, true, true, true]) (outK (F26.P4 kb4) (fun i e h => F26.C4 call lf ro (.exit i e h)) (fun e h => F26.C4 call lf ro (.ret e h))))

noncomputable def F26.KJ8 (call : CT) (lf ro : Nat) (kb4 : Nat → Nat → Nat → Nat → (Option Addr) → Nat → Nat → Int → Int → Int → Heap → Out) : COut → Out := blockK 1 (seqK Tryd.prog call lf ro (sub (codeOf Tryd.f26) [true, true, true, false, true, false, false, true, true, true]) (outK (F26.P4 kb4) (fun i e h => F26.C4 call lf ro (.exit i e h)) (fun e h => F26.C4 call lf ro (.ret e h))))

noncomputable def F26.CJ7 (call : CT) (lf ro : Nat) (kb4 : Nat → Nat → Nat → Nat → (Option Addr) → Nat → Nat → Int → Int → Int → Heap → Out) : COut → Out := seqH Tryd.prog call ro (F26.H4 call lf ro kb4) (F26.U4 call lf ro kb4) (sub (codeOf Tryd.f26) [true, true, true, false, true, false, false, true, true, false, false, true, true]) (blockK 1 (seqH Tryd.prog call ro (F26.H4 call lf ro kb4) (F26.U4 call lf ro kb4) (sub (codeOf Tryd.f26) [true, true, true, false, true, false, false, true, true, true]) (outK (F26.P4 kb4) (fun i e h => F26.C4 call lf ro (.exit i e h)) (fun e h => F26.C4 call lf ro (.ret e h)))))

noncomputable def F26.KJ7 (call : CT) (lf ro : Nat) (kb4 : Nat → Nat → Nat → Nat → (Option Addr) → Nat → Nat → Int → Int → Int → Heap → Out) : COut → Out := seqK Tryd.prog call lf ro (sub (codeOf Tryd.f26) [true, true, true, false, true, false, false, true, true, false, false, true, true]) (blockK 1 (seqK Tryd.prog call lf ro (sub (codeOf Tryd.f26) [true, true, true, false, true, false, false, true, true, true]) (outK (F26.P4 kb4) (fun i e h => F26.C4 call lf ro (.exit i e h)) (fun e h => F26.C4 call lf ro (.ret e h)))))

noncomputable def F26.CJ5 (call : CT) (lf ro : Nat) (kb4 : Nat → Nat → Nat → Nat → (Option Addr) → Nat → Nat → Int → Int → Int → Heap → Out) : COut → Out := outK (F26.P4 kb4) (fun i e h => F26.C4 call lf ro (.exit i e h)) (fun e h => F26.C4 call lf ro (.ret e h))

noncomputable def F26.KJ5 (call : CT) (lf ro : Nat) (kb4 : Nat → Nat → Nat → Nat → (Option Addr) → Nat → Nat → Int → Int → Int → Heap → Out) : COut → Out := outK (F26.P4 kb4) (fun i e h => F26.C4 call lf ro (.exit i e h)) (fun e h => F26.C4 call lf ro (.ret e h))

noncomputable def F26.CJ12 (call : CT) (lf ro : Nat) (kb4 : Nat → Nat → Nat → Nat → (Option Addr) → Nat → Nat → Int → Int → Int → Heap → Out) (kb11 : Nat → Nat → Nat → Nat → (Option Addr) → Nat → Nat → Int → Int → Int → Int → (Option Addr) → Nat → Nat → Int → Int → Heap → Out) : COut → Out := outK (F26.P11 kb11) (fun i e h => F26.C11 call lf ro kb4 (.exit i e h)) (fun e h => F26.C11 call lf ro kb4 (.ret e h))

noncomputable def F26.KJ12 (call : CT) (lf ro : Nat) (kb4 : Nat → Nat → Nat → Nat → (Option Addr) → Nat → Nat → Int → Int → Int → Heap → Out) (kb11 : Nat → Nat → Nat → Nat → (Option Addr) → Nat → Nat → Int → Int → Int → Int → (Option Addr) → Nat → Nat → Int → Int → Heap → Out) : COut → Out := outK (F26.P11 kb11) (fun i e h => F26.C11 call lf ro kb4 (.exit i e h)) (fun e h => F26.C11 call lf ro kb4 (.ret e h))

theorem F26.RJ12 (call : CT) (lf ro : Nat) (kb4 : Nat → Nat → Nat → Nat → (Option Addr) → Nat → Nat → Int → Int → Int → Heap → Out) (kb11 : Nat → Nat → Nat → Nat → (Option Addr) → Nat → Nat → Int → Int → Int → Int → (Option Addr) → Nat → Nat → Int → Int → Heap → Out) (f : Nat → Option Value) (p146 : Nat) (o146 : Nat) (p147 : Nat) (o147 : Nat) (a148 : Option Addr) (l148 : Nat) (c148 : Nat) (n149 : Int) (n150 : Int) (n151 : Int) (n152 : Int) (a153 : Option Addr) (l153 : Nat) (c153 : Nat) (n154 : Int) (n155 : Int) (h156 : Heap) :
    execH Tryd.prog call ro (F26.H11 call lf ro kb4 kb11) (F26.U11 call lf ro kb4 kb11) (sub (codeOf Tryd.f26) [true, true, true, false, true, false, false, true, true, false, false, true, true, true, true, true, false, false, true, true]) (EF 113 (updF (updF (updF (updF (updF (updF (updF (updF (updF (updF f 0 (some (.pointer (some ⟨p146, o146, none⟩)))) 3 (some (.pointer (some ⟨p147, o147, none⟩)))) 5 (some (.slice a148 l148 c148))) 6 (some (.int .i64 n149))) 7 (some (.int .i64 n150))) 15 (some (.int .i64 n151))) 16 (some (.int .i64 n152))) 81 (some (.slice a153 l153 c153))) 82 (some (.int .i64 n154))) 83 (some (.int .i64 n155)))) h156 (F26.CJ12 call lf ro kb4 kb11) = F26.J12 call lf ro kb4 kb11 p146 o146 p147 o147 a148 l148 c148 n149 n150 n151 n152 a153 l153 c153 n154 n155 h156 := by kernel_rfl

theorem F26.CKJ12 (call : CT) (lf ro : Nat) (kb4 : Nat → Nat → Nat → Nat → (Option Addr) → Nat → Nat → Int → Int → Int → Heap → Out) (kb11 : Nat → Nat → Nat → Nat → (Option Addr) → Nat → Nat → Int → Int → Int → Int → (Option Addr) → Nat → Nat → Int → Int → Heap → Out) : KLe 113 (F26.CJ12 call lf ro kb4 kb11) (F26.KJ12 call lf ro kb4 kb11) :=
  (KLe.refl _)

theorem F26.BJ12 (call : CT) (lf ro : Nat) (kb4 : Nat → Nat → Nat → Nat → (Option Addr) → Nat → Nat → Int → Int → Int → Heap → Out) (kb11 : Nat → Nat → Nat → Nat → (Option Addr) → Nat → Nat → Int → Int → Int → Int → (Option Addr) → Nat → Nat → Int → Int → Heap → Out) : ∀ e h, Shaped 113 e → LeO (F26.PJ12 (F26.J12 call lf ro kb4 kb11) e h) (execK Tryd.prog call lf ro (sub (codeOf Tryd.f26) [true, true, true, false, true, false, false, true, true, false, false, true, true, true, true, true, false, false, true, true]) e h (F26.KJ12 call lf ro kb4 kb11)) := by
    rintro e h ⟨f, rfl⟩
    unfold F26.PJ12
    refine getK_le fun w0 g0 => ?_
    rw [EF_get (by decide)] at g0
    refine ptrK_le fun p725 o725 z1090 => ?_
    subst z1090
    refine getK_le fun w3 g3 => ?_
    rw [EF_get (by decide)] at g3
    refine ptrK_le fun p726 o726 z1091 => ?_
    subst z1091
    refine getK_le fun w5 g5 => ?_
    rw [EF_get (by decide)] at g5
    refine sliceK_le fun a727 l727 c727 z1092 => ?_
    subst z1092
    refine getK_le fun w6 g6 => ?_
    rw [EF_get (by decide)] at g6
    refine intK_le fun n728 z1093 => ?_
    subst z1093
    refine getK_le fun w7 g7 => ?_
    rw [EF_get (by decide)] at g7
    refine intK_le fun n729 z1094 => ?_
    subst z1094
    refine getK_le fun w15 g15 => ?_
    rw [EF_get (by decide)] at g15
    refine intK_le fun n730 z1095 => ?_
    subst z1095
    refine getK_le fun w16 g16 => ?_
    rw [EF_get (by decide)] at g16
    refine intK_le fun n731 z1096 => ?_
    subst z1096
    refine getK_le fun w81 g81 => ?_
    rw [EF_get (by decide)] at g81
    refine sliceK_le fun a732 l732 c732 z1097 => ?_
    subst z1097
    refine getK_le fun w82 g82 => ?_
    rw [EF_get (by decide)] at g82
    refine intK_le fun n733 z1098 => ?_
    subst z1098
    refine getK_le fun w83 g83 => ?_
    rw [EF_get (by decide)] at g83
    refine intK_le fun n734 z1099 => ?_
    subst z1099
    have hr := F26.RJ12 call lf ro kb4 kb11 f p725 o725 p726 o726 a727 l727 c727 n728 n729 n730 n731 a732 l732 c732 n733 n734 h
    rw [updF_same g0, updF_same g3, updF_same g5, updF_same g6, updF_same g7, updF_same g15, updF_same g16, updF_same g81, updF_same g82, updF_same g83] at hr
    exact cut_le (H := (F26.H11 call lf ro kb4 kb11)) (J := (F26.U11 call lf ro kb4 kb11)) (F26.CKJ12 call lf ro kb4 kb11) (hd_free rfl) hr

theorem F26.R11 (call : CT) (lf ro : Nat) (kb4 : Nat → Nat → Nat → Nat → (Option Addr) → Nat → Nat → Int → Int → Int → Heap → Out) (n : Nat) (f : Nat → Option Value) (p135 : Nat) (o135 : Nat) (p136 : Nat) (o136 : Nat) (a137 : Option Addr) (l137 : Nat) (c137 : Nat) (n138 : Int) (n139 : Int) (n140 : Int) (n141 : Int) (a142 : Option Addr) (l142 : Nat) (c142 : Nat) (n143 : Int) (n144 : Int) (h145 : Heap) :
    execH Tryd.prog call ro (F26.H11 call lf ro kb4 (F26.L11 call lf ro kb4 n)) (F26.U11 call lf ro kb4 (F26.L11 call lf ro kb4 n)) (sub (codeOf Tryd.f26) [true, true, true, false, true, false, false, true, true, false, false, true, true, true, true, true, false, false]) (EF 113 (updF (updF (updF (updF (updF (updF (updF (updF (updF (updF f 0 (some (.pointer (some ⟨p135, o135, none⟩)))) 3 (some (.pointer (some ⟨p136, o136, none⟩)))) 5 (some (.slice a137 l137 c137))) 6 (some (.int .i64 n138))) 7 (some (.int .i64 n139))) 15 (some (.int .i64 n140))) 16 (some (.int .i64 n141))) 81 (some (.slice a142 l142 c142))) 82 (some (.int .i64 n143))) 83 (some (.int .i64 n144)))) h145 (outK (F26.P11 (F26.L11 call lf ro kb4 n)) (fun i e h => F26.C11 call lf ro kb4 (.exit i e h)) (fun e h => F26.C11 call lf ro kb4 (.ret e h))) = F26.L11 call lf ro kb4 (n + 1) p135 o135 p136 o136 a137 l137 c137 n138 n139 n140 n141 a142 l142 c142 n143 n144 h145 := by kernel_rfl

theorem F26.CK11 (call : CT) (lf ro : Nat) (kb4 : Nat → Nat → Nat → Nat → (Option Addr) → Nat → Nat → Int → Int → Int → Heap → Out) : KLe 113 (F26.C11 call lf ro kb4) (F26.K11 call lf ro kb4) :=
  (KLe.block (KLe.block (KLe.seq (H := (F26.H4 call lf ro kb4)) (J := (F26.U4 call lf ro kb4)) (KLe.refl _) (hd_free rfl))))

theorem F26.B11 (call : CT) (lf ro : Nat) (kb4 : Nat → Nat → Nat → Nat → (Option Addr) → Nat → Nat → Int → Int → Int → Heap → Out) : ∀ n e h, Shaped 113 e → LeO (F26.P11 (F26.L11 call lf ro kb4 n) e h) (loopK (execK Tryd.prog call lf ro (sub (codeOf Tryd.f26) [true, true, true, false, true, false, false, true, true, false, false, true, true, true, true, true, false, false])) n e h (F26.K11 call lf ro kb4)) := by
  refine loop_le (fun e h k k' hs hk => execK_mono _ e h k k' hs hk) (kb := fun n => F26.P11 (F26.L11 call lf ro kb4 n)) (kx := fun i e h => F26.C11 call lf ro kb4 (.exit i e h)) (kr := fun e h => F26.C11 call lf ro kb4 (.ret e h)) ?_ ?_ (fun i e h hs => (F26.CK11 call lf ro kb4).exit i e h hs) (fun e h hs => (F26.CK11 call lf ro kb4).ret e h hs)
  · rintro e h ⟨f, rfl⟩
    unfold F26.P11
    refine getK_le fun w0 g0 => ?_
    rw [EF_get (by decide)] at g0
    refine ptrK_le fun p735 o735 z1110 => ?_
    subst z1110
    refine getK_le fun w3 g3 => ?_
    rw [EF_get (by decide)] at g3
    refine ptrK_le fun p736 o736 z1111 => ?_
    subst z1111
    refine getK_le fun w5 g5 => ?_
    rw [EF_get (by decide)] at g5
    refine sliceK_le fun a737 l737 c737 z1112 => ?_
    subst z1112
    refine getK_le fun w6 g6 => ?_
    rw [EF_get (by decide)] at g6
    refine intK_le fun n738 z1113 => ?_
    subst z1113
    refine getK_le fun w7 g7 => ?_
    rw [EF_get (by decide)] at g7
    refine intK_le fun n739 z1114 => ?_
    subst z1114
    refine getK_le fun w15 g15 => ?_
    rw [EF_get (by decide)] at g15
    refine intK_le fun n740 z1115 => ?_
    subst z1115
    refine getK_le fun w16 g16 => ?_
    rw [EF_get (by decide)] at g16
    refine intK_le fun n741 z1116 => ?_
    subst z1116
    refine getK_le fun w81 g81 => ?_
    rw [EF_get (by decide)] at g81
    refine sliceK_le fun a742 l742 c742 z1117 => ?_
    subst z1117
    refine getK_le fun w82 g82 => ?_
    rw [EF_get (by decide)] at g82
    refine intK_le fun n743 z1118 => ?_
    subst z1118
    refine getK_le fun w83 g83 => ?_
    rw [EF_get (by decide)] at g83
    refine intK_le fun n744 z1119 => ?_
    subst z1119
    exact LeO.refl _
  · rintro n e h ⟨f, rfl⟩
    unfold F26.P11
    refine getK_le fun w0 g0 => ?_
    rw [EF_get (by decide)] at g0
    refine ptrK_le fun p735 o735 z1120 => ?_
    subst z1120
    refine getK_le fun w3 g3 => ?_
    rw [EF_get (by decide)] at g3
    refine ptrK_le fun p736 o736 z1121 => ?_
    subst z1121
    refine getK_le fun w5 g5 => ?_
    rw [EF_get (by decide)] at g5
    refine sliceK_le fun a737 l737 c737 z1122 => ?_
    subst z1122
    refine getK_le fun w6 g6 => ?_
    rw [EF_get (by decide)] at g6
    refine intK_le fun n738 z1123 => ?_
    subst z1123
    refine getK_le fun w7 g7 => ?_
    rw [EF_get (by decide)] at g7
    refine intK_le fun n739 z1124 => ?_
    subst z1124
    refine getK_le fun w15 g15 => ?_
    rw [EF_get (by decide)] at g15
    refine intK_le fun n740 z1125 => ?_
    subst z1125
    refine getK_le fun w16 g16 => ?_
    rw [EF_get (by decide)] at g16
    refine intK_le fun n741 z1126 => ?_
    subst z1126
    refine getK_le fun w81 g81 => ?_
    rw [EF_get (by decide)] at g81
    refine sliceK_le fun a742 l742 c742 z1127 => ?_
    subst z1127
    refine getK_le fun w82 g82 => ?_
    rw [EF_get (by decide)] at g82
    refine intK_le fun n743 z1128 => ?_
    subst z1128
    refine getK_le fun w83 g83 => ?_
    rw [EF_get (by decide)] at g83
    refine intK_le fun n744 z1129 => ?_
    subst z1129
    have hr := F26.R11 call lf ro kb4 n f p735 o735 p736 o736 a737 l737 c737 n738 n739 n740 n741 a742 l742 c742 n743 n744 h
    rw [updF_same g0, updF_same g3, updF_same g5, updF_same g6, updF_same g7, updF_same g15, updF_same g16, updF_same g81, updF_same g82, updF_same g83] at hr
    exact round_le (H := (F26.H11 call lf ro kb4 (F26.L11 call lf ro kb4 n))) (J := (F26.U11 call lf ro kb4 (F26.L11 call lf ro kb4 n))) ⟨(hd_free rfl), ⟨(hd_free rfl), (fun e h hs => F26.BJ12 call lf ro kb4 (F26.L11 call lf ro kb4 n) e h hs)⟩⟩ hr

theorem F26.RJ10 (call : CT) (lf ro : Nat) (kb4 : Nat → Nat → Nat → Nat → (Option Addr) → Nat → Nat → Int → Int → Int → Heap → Out) (f : Nat → Option Value) (p116 : Nat) (o116 : Nat) (p117 : Nat) (o117 : Nat) (a118 : Option Addr) (l118 : Nat) (c118 : Nat) (n119 : Int) (n120 : Int) (n121 : Int) (n122 : Int) (n123 : Int) (h124 : Heap) :
    execH Tryd.prog call ro (F26.H4 call lf ro kb4) (F26.U4 call lf ro kb4) (sub (codeOf Tryd.f26) [true, true, true, false, true, false, false, true, true, false, false, true, true, true, true]) (EF 113 (updF (updF (updF (updF (updF (updF (updF (updF f 0 (some (.pointer (some ⟨p116, o116, none⟩)))) 3 (some (.pointer (some ⟨p117, o117, none⟩)))) 5 (some (.slice a118 l118 c118))) 6 (some (.int .i64 n119))) 7 (some (.int .i64 n120))) 8 (some (.int .i64 n121))) 15 (some (.int .i64 n122))) 16 (some (.int .i64 n123)))) h124 (F26.CJ10 call lf ro kb4) = F26.J10 call lf ro kb4 p116 o116 p117 o117 a118 l118 c118 n119 n120 n121 n122 n123 h124 := by kernel_rfl

theorem F26.CKJ10 (call : CT) (lf ro : Nat) (kb4 : Nat → Nat → Nat → Nat → (Option Addr) → Nat → Nat → Int → Int → Int → Heap → Out) : KLe 113 (F26.CJ10 call lf ro kb4) (F26.KJ10 call lf ro kb4) :=
  (KLe.block (KLe.seq (H := (F26.H4 call lf ro kb4)) (J := (F26.U4 call lf ro kb4)) (KLe.refl _) (hd_free rfl)))

theorem F26.BJ10 (call : CT) (lf ro : Nat) (kb4 : Nat → Nat → Nat → Nat → (Option Addr) → Nat → Nat → Int → Int → Int → Heap → Out) : ∀ e h, Shaped 113 e → LeO (F26.PJ10 (F26.J10 call lf ro kb4) e h) (execK Tryd.prog call lf ro (sub (codeOf Tryd.f26) [true, true, true, false, true, false, false, true, true, false, false, true, true, true, true]) e h (F26.KJ10 call lf ro kb4)) := by
    rintro e h ⟨f, rfl⟩
    unfold F26.PJ10
    refine getK_le fun w0 g0 => ?_
    rw [EF_get (by decide)] at g0
    refine ptrK_le fun p815 o815 z1130 => ?_
    subst z1130
    refine getK_le fun w3 g3 => ?_
    rw [EF_get (by decide)] at g3
    refine ptrK_le fun p816 o816 z1131 => ?_
    subst z1131
    refine getK_le fun w5 g5 => ?_
    rw [EF_get (by decide)] at g5
    refine sliceK_le fun a817 l817 c817 z1132 => ?_
    subst z1132
    refine getK_le fun w6 g6 => ?_
    rw [EF_get (by decide)] at g6
    refine intK_le fun n818 z1133 => ?_
    subst z1133
    refine getK_le fun w7 g7 => ?_
    rw [EF_get (by decide)] at g7
    refine intK_le fun n819 z1134 => ?_
    subst z1134
    refine getK_le fun w8 g8 => ?_
    rw [EF_get (by decide)] at g8
    refine intK_le fun n820 z1135 => ?_
    subst z1135
    refine getK_le fun w15 g15 => ?_
    rw [EF_get (by decide)] at g15
    refine intK_le fun n821 z1136 => ?_
    subst z1136
    refine getK_le fun w16 g16 => ?_
    rw [EF_get (by decide)] at g16
    refine intK_le fun n822 z1137 => ?_
    subst z1137
    have hr := F26.RJ10 call lf ro kb4 f p815 o815 p816 o816 a817 l817 c817 n818 n819 n820 n821 n822 h
    rw [updF_same g0, updF_same g3, updF_same g5, updF_same g6, updF_same g7, updF_same g8, updF_same g15, updF_same g16] at hr
    exact cut_le (H := (F26.H4 call lf ro kb4)) (J := (F26.U4 call lf ro kb4)) (F26.CKJ10 call lf ro kb4) ⟨(hd_free rfl), (fun e h hs => F26.B11 call lf ro kb4 lf e h hs)⟩ hr

theorem F26.RJ8 (call : CT) (lf ro : Nat) (kb4 : Nat → Nat → Nat → Nat → (Option Addr) → Nat → Nat → Int → Int → Int → Heap → Out) (f : Nat → Option Value) (p96 : Nat) (o96 : Nat) (p97 : Nat) (o97 : Nat) (a98 : Option Addr) (l98 : Nat) (c98 : Nat) (n99 : Int) (n100 : Int) (n101 : Int) (n102 : Int) (h103 : Heap) :
    execH Tryd.prog call ro (F26.H4 call lf ro kb4) (F26.U4 call lf ro kb4) (sub (codeOf Tryd.f26) [true, true, true, false, true, false, false, true, true, false, false, true, true]) (EF 113 (updF (updF (updF (updF (updF (updF (updF f 0 (some (.pointer (some ⟨p96, o96, none⟩)))) 3 (some (.pointer (some ⟨p97, o97, none⟩)))) 5 (some (.slice a98 l98 c98))) 6 (some (.int .i64 n99))) 7 (some (.int .i64 n100))) 15 (some (.int .i64 n101))) 16 (some (.int .i64 n102)))) h103 (F26.CJ8 call lf ro kb4) = F26.J8 call lf ro kb4 p96 o96 p97 o97 a98 l98 c98 n99 n100 n101 n102 h103 := by kernel_rfl

theorem F26.CKJ8 (call : CT) (lf ro : Nat) (kb4 : Nat → Nat → Nat → Nat → (Option Addr) → Nat → Nat → Int → Int → Int → Heap → Out) : KLe 113 (F26.CJ8 call lf ro kb4) (F26.KJ8 call lf ro kb4) :=
  (KLe.block (KLe.seq (H := (F26.H4 call lf ro kb4)) (J := (F26.U4 call lf ro kb4)) (KLe.refl _) (hd_free rfl)))

theorem F26.BJ8 (call : CT) (lf ro : Nat) (kb4 : Nat → Nat → Nat → Nat → (Option Addr) → Nat → Nat → Int → Int → Int → Heap → Out) : ∀ e h, Shaped 113 e → LeO (F26.PJ8 (F26.J8 call lf ro kb4) e h) (execK Tryd.prog call lf ro (sub (codeOf Tryd.f26) [true, true, true, false, true, false, false, true, true, false, false, true, true]) e h (F26.KJ8 call lf ro kb4)) := by
    rintro e h ⟨f, rfl⟩
    unfold F26.PJ8
    refine getK_le fun w0 g0 => ?_
    rw [EF_get (by decide)] at g0
    refine ptrK_le fun p907 o907 z1146 => ?_
    subst z1146
    refine getK_le fun w3 g3 => ?_
    rw [EF_get (by decide)] at g3
    refine ptrK_le fun p908 o908 z1147 => ?_
    subst z1147
    refine getK_le fun w5 g5 => ?_
    rw [EF_get (by decide)] at g5
    refine sliceK_le fun a909 l909 c909 z1148 => ?_
    subst z1148
    refine getK_le fun w6 g6 => ?_
    rw [EF_get (by decide)] at g6
    refine intK_le fun n910 z1149 => ?_
    subst z1149
    refine getK_le fun w7 g7 => ?_
    rw [EF_get (by decide)] at g7
    refine intK_le fun n911 z1150 => ?_
    subst z1150
    refine getK_le fun w15 g15 => ?_
    rw [EF_get (by decide)] at g15
    refine intK_le fun n912 z1151 => ?_
    subst z1151
    refine getK_le fun w16 g16 => ?_
    rw [EF_get (by decide)] at g16
    refine intK_le fun n913 z1152 => ?_
    subst z1152
    have hr := F26.RJ8 call lf ro kb4 f p907 o907 p908 o908 a909 l909 c909 n910 n911 n912 n913 h
    rw [updF_same g0, updF_same g3, updF_same g5, updF_same g6, updF_same g7, updF_same g15, updF_same g16] at hr
    exact cut_le (H := (F26.H4 call lf ro kb4)) (J := (F26.U4 call lf ro kb4)) (F26.CKJ8 call lf ro kb4) ⟨(hd_free rfl), ⟨(hd_free rfl), (fun e h hs => F26.BJ10 call lf ro kb4 e h hs)⟩⟩ hr

theorem F26.RJ7 (call : CT) (lf ro : Nat) (kb4 : Nat → Nat → Nat → Nat → (Option Addr) → Nat → Nat → Int → Int → Int → Heap → Out) (f : Nat → Option Value) (p62 : Nat) (o62 : Nat) (p63 : Nat) (o63 : Nat) (a64 : Option Addr) (l64 : Nat) (c64 : Nat) (n65 : Int) (n66 : Int) (n67 : Int) (n68 : Int) (b69 : Bool) (h70 : Heap) :
    execH Tryd.prog call ro (F26.H4 call lf ro kb4) (F26.U4 call lf ro kb4) (sub (codeOf Tryd.f26) [true, true, true, false, true, false, false, true, true, false, false, true, false, true]) (EF 113 (updF (updF (updF (updF (updF (updF (updF (updF f 0 (some (.pointer (some ⟨p62, o62, none⟩)))) 3 (some (.pointer (some ⟨p63, o63, none⟩)))) 5 (some (.slice a64 l64 c64))) 6 (some (.int .i64 n65))) 7 (some (.int .i64 n66))) 15 (some (.int .i64 n67))) 16 (some (.int .i64 n68))) 44 (some (.bool b69)))) h70 (F26.CJ7 call lf ro kb4) = F26.J7 call lf ro kb4 p62 o62 p63 o63 a64 l64 c64 n65 n66 n67 n68 b69 h70 := by kernel_rfl

theorem F26.CKJ7 (call : CT) (lf ro : Nat) (kb4 : Nat → Nat → Nat → Nat → (Option Addr) → Nat → Nat → Int → Int → Int → Heap → Out) : KLe 113 (F26.CJ7 call lf ro kb4) (F26.KJ7 call lf ro kb4) :=
  (KLe.seq (H := (F26.H4 call lf ro kb4)) (J := (F26.U4 call lf ro kb4)) (KLe.block (KLe.seq (H := (F26.H4 call lf ro kb4)) (J := (F26.U4 call lf ro kb4)) (KLe.refl _) (hd_free rfl))) (fun e h hs => F26.BJ8 call lf ro kb4 e h hs))

theorem F26.BJ7 (call : CT) (lf ro : Nat) (kb4 : Nat → Nat → Nat → Nat → (Option Addr) → Nat → Nat → Int → Int → Int → Heap → Out) : ∀ e h, Shaped 113 e → LeO (F26.PJ7 (F26.J7 call lf ro kb4) e h) (execK Tryd.prog call lf ro (sub (codeOf Tryd.f26) [true, true, true, false, true, false, false, true, true, false, false, true, false, true]) e h (F26.KJ7 call lf ro kb4)) := by
    rintro e h ⟨f, rfl⟩
    unfold F26.PJ7
    refine getK_le fun w0 g0 => ?_
    rw [EF_get (by decide)] at g0
    refine ptrK_le fun p989 o989 z1160 => ?_
    subst z1160
    refine getK_le fun w3 g3 => ?_
    rw [EF_get (by decide)] at g3
    refine ptrK_le fun p990 o990 z1161 => ?_
    subst z1161
    refine getK_le fun w5 g5 => ?_
    rw [EF_get (by decide)] at g5
    refine sliceK_le fun a991 l991 c991 z1162 => ?_
    subst z1162
    refine getK_le fun w6 g6 => ?_
    rw [EF_get (by decide)] at g6
    refine intK_le fun n992 z1163 => ?_
    subst z1163
    refine getK_le fun w7 g7 => ?_
    rw [EF_get (by decide)] at g7
    refine intK_le fun n993 z1164 => ?_
    subst z1164
    refine getK_le fun w15 g15 => ?_
    rw [EF_get (by decide)] at g15
    refine intK_le fun n994 z1165 => ?_
    subst z1165
    refine getK_le fun w16 g16 => ?_
    rw [EF_get (by decide)] at g16
    refine intK_le fun n995 z1166 => ?_
    subst z1166
    refine getK_le fun w44 g44 => ?_
    rw [EF_get (by decide)] at g44
    refine boolK_le fun b996 z1167 => ?_
    subst z1167
    have hr := F26.RJ7 call lf ro kb4 f p989 o989 p990 o990 a991 l991 c991 n992 n993 n994 n995 b996 h
    rw [updF_same g0, updF_same g3, updF_same g5, updF_same g6, updF_same g7, updF_same g15, updF_same g16, updF_same g44] at hr
    exact cut_le (H := (F26.H4 call lf ro kb4)) (J := (F26.U4 call lf ro kb4)) (F26.CKJ7 call lf ro kb4) (hd_free rfl) hr

theorem F26.RJ5 (call : CT) (lf ro : Nat) (kb4 : Nat → Nat → Nat → Nat → (Option Addr) → Nat → Nat → Int → Int → Int → Heap → Out) (f : Nat → Option Value) (p28 : Nat) (o28 : Nat) (p29 : Nat) (o29 : Nat) (a30 : Option Addr) (l30 : Nat) (c30 : Nat) (n31 : Int) (n32 : Int) (n33 : Int) (h34 : Heap) :
    execH Tryd.prog call ro (F26.H4 call lf ro kb4) (F26.U4 call lf ro kb4) (sub (codeOf Tryd.f26) [true, true, true, false, true, false, false, true, true]) (EF 113 (updF (updF (updF (updF (updF (updF f 0 (some (.pointer (some ⟨p28, o28, none⟩)))) 3 (some (.pointer (some ⟨p29, o29, none⟩)))) 5 (some (.slice a30 l30 c30))) 6 (some (.int .i64 n31))) 15 (some (.int .i64 n32))) 16 (some (.int .i64 n33)))) h34 (F26.CJ5 call lf ro kb4) = F26.J5 call lf ro kb4 p28 o28 p29 o29 a30 l30 c30 n31 n32 n33 h34 := by kernel_rfl

theorem F26.CKJ5 (call : CT) (lf ro : Nat) (kb4 : Nat → Nat → Nat → Nat → (Option Addr) → Nat → Nat → Int → Int → Int → Heap → Out) : KLe 113 (F26.CJ5 call lf ro kb4) (F26.KJ5 call lf ro kb4) :=
  (KLe.refl _)

theorem F26.BJ5 (call : CT) (lf ro : Nat) (kb4 : Nat → Nat → Nat → Nat → (Option Addr) → Nat → Nat → Int → Int → Int → Heap → Out) : ∀ e h, Shaped 113 e → LeO (F26.PJ5 (F26.J5 call lf ro kb4) e h) (execK Tryd.prog call lf ro (sub (codeOf Tryd.f26) [true, true, true, false, true, false, false, true, true]) e h (F26.KJ5 call lf ro kb4)) := by
    rintro e h ⟨f, rfl⟩
    unfold F26.PJ5
    refine getK_le fun w0 g0 => ?_
    rw [EF_get (by decide)] at g0
    refine ptrK_le fun p1078 o1078 z1176 => ?_
    subst z1176
    refine getK_le fun w3 g3 => ?_
    rw [EF_get (by decide)] at g3
    refine ptrK_le fun p1079 o1079 z1177 => ?_
    subst z1177
    refine getK_le fun w5 g5 => ?_
    rw [EF_get (by decide)] at g5
    refine sliceK_le fun a1080 l1080 c1080 z1178 => ?_
    subst z1178
    refine getK_le fun w6 g6 => ?_
    rw [EF_get (by decide)] at g6
    refine intK_le fun n1081 z1179 => ?_
    subst z1179
    refine getK_le fun w15 g15 => ?_
    rw [EF_get (by decide)] at g15
    refine intK_le fun n1082 z1180 => ?_
    subst z1180
    refine getK_le fun w16 g16 => ?_
    rw [EF_get (by decide)] at g16
    refine intK_le fun n1083 z1181 => ?_
    subst z1181
    have hr := F26.RJ5 call lf ro kb4 f p1078 o1078 p1079 o1079 a1080 l1080 c1080 n1081 n1082 n1083 h
    rw [updF_same g0, updF_same g3, updF_same g5, updF_same g6, updF_same g15, updF_same g16] at hr
    exact cut_le (H := (F26.H4 call lf ro kb4)) (J := (F26.U4 call lf ro kb4)) (F26.CKJ5 call lf ro kb4) ⟨⟨(hd_free rfl), ⟨⟨(hd_free rfl), (fun e h hs => F26.BJ7 call lf ro kb4 e h hs)⟩, (fun e h hs => F26.BJ8 call lf ro kb4 e h hs)⟩⟩, (hd_free rfl)⟩ hr

theorem F26.R4 (call : CT) (lf ro : Nat) (n : Nat) (f : Nat → Option Value) (p21 : Nat) (o21 : Nat) (p22 : Nat) (o22 : Nat) (a23 : Option Addr) (l23 : Nat) (c23 : Nat) (n24 : Int) (n25 : Int) (n26 : Int) (h27 : Heap) :
    execH Tryd.prog call ro (F26.H4 call lf ro (F26.L4 call lf ro n)) (F26.U4 call lf ro (F26.L4 call lf ro n)) (sub (codeOf Tryd.f26) [true, true, true, false, true, false, false]) (EF 113 (updF (updF (updF (updF (updF (updF f 0 (some (.pointer (some ⟨p21, o21, none⟩)))) 3 (some (.pointer (some ⟨p22, o22, none⟩)))) 5 (some (.slice a23 l23 c23))) 6 (some (.int .i64 n24))) 15 (some (.int .i64 n25))) 16 (some (.int .i64 n26)))) h27 (outK (F26.P4 (F26.L4 call lf ro n)) (fun i e h => F26.C4 call lf ro (.exit i e h)) (fun e h => F26.C4 call lf ro (.ret e h))) = F26.L4 call lf ro (n + 1) p21 o21 p22 o22 a23 l23 c23 n24 n25 n26 h27 := by kernel_rfl

theorem F26.CK4 (call : CT) (lf ro : Nat) : KLe 113 (F26.C4 call lf ro) (F26.K4 call lf ro) :=
  (KLe.block (KLe.seq (H := (F26.Ht call lf ro)) (J := (F26.Ut call lf ro)) (KLe.refl _) (hd_free rfl)))

theorem F26.B4 (call : CT) (lf ro : Nat) : ∀ n e h, Shaped 113 e → LeO (F26.P4 (F26.L4 call lf ro n) e h) (loopK (execK Tryd.prog call lf ro (sub (codeOf Tryd.f26) [true, true, true, false, true, false, false])) n e h (F26.K4 call lf ro)) := by
  refine loop_le (fun e h k k' hs hk => execK_mono _ e h k k' hs hk) (kb := fun n => F26.P4 (F26.L4 call lf ro n)) (kx := fun i e h => F26.C4 call lf ro (.exit i e h)) (kr := fun e h => F26.C4 call lf ro (.ret e h)) ?_ ?_ (fun i e h hs => (F26.CK4 call lf ro).exit i e h hs) (fun e h hs => (F26.CK4 call lf ro).ret e h hs)
  · rintro e h ⟨f, rfl⟩
    unfold F26.P4
    refine getK_le fun w0 g0 => ?_
    rw [EF_get (by decide)] at g0
    refine ptrK_le fun p1084 o1084 z1188 => ?_
    subst z1188
    refine getK_le fun w3 g3 => ?_
    rw [EF_get (by decide)] at g3
    refine ptrK_le fun p1085 o1085 z1189 => ?_
    subst z1189
    refine getK_le fun w5 g5 => ?_
    rw [EF_get (by decide)] at g5
    refine sliceK_le fun a1086 l1086 c1086 z1190 => ?_
    subst z1190
    refine getK_le fun w6 g6 => ?_
    rw [EF_get (by decide)] at g6
    refine intK_le fun n1087 z1191 => ?_
    subst z1191
    refine getK_le fun w15 g15 => ?_
    rw [EF_get (by decide)] at g15
    refine intK_le fun n1088 z1192 => ?_
    subst z1192
    refine getK_le fun w16 g16 => ?_
    rw [EF_get (by decide)] at g16
    refine intK_le fun n1089 z1193 => ?_
    subst z1193
    exact LeO.refl _
  · rintro n e h ⟨f, rfl⟩
    unfold F26.P4
    refine getK_le fun w0 g0 => ?_
    rw [EF_get (by decide)] at g0
    refine ptrK_le fun p1084 o1084 z1194 => ?_
    subst z1194
    refine getK_le fun w3 g3 => ?_
    rw [EF_get (by decide)] at g3
    refine ptrK_le fun p1085 o1085 z1195 => ?_
    subst z1195
    refine getK_le fun w5 g5 => ?_
    rw [EF_get (by decide)] at g5
    refine sliceK_le fun a1086 l1086 c1086 z1196 => ?_
    subst z1196
    refine getK_le fun w6 g6 => ?_
    rw [EF_get (by decide)] at g6
    refine intK_le fun n1087 z1197 => ?_
    subst z1197
    refine getK_le fun w15 g15 => ?_
    rw [EF_get (by decide)] at g15
    refine intK_le fun n1088 z1198 => ?_
    subst z1198
    refine getK_le fun w16 g16 => ?_
    rw [EF_get (by decide)] at g16
    refine intK_le fun n1089 z1199 => ?_
    subst z1199
    have hr := F26.R4 call lf ro n f p1084 o1084 p1085 o1085 a1086 l1086 c1086 n1087 n1088 n1089 h
    rw [updF_same g0, updF_same g3, updF_same g5, updF_same g6, updF_same g15, updF_same g16] at hr
    exact round_le (H := (F26.H4 call lf ro (F26.L4 call lf ro n))) (J := (F26.U4 call lf ro (F26.L4 call lf ro n))) ⟨(hd_free rfl), ⟨(hd_free rfl), (fun e h hs => F26.BJ5 call lf ro (F26.L4 call lf ro n) e h hs)⟩⟩ hr

theorem F26.le (call : CT) (lf ro : Nat) (px0 : Nat) (ox0 : Nat) (x1_0 : Int) (x1_1 : Int) (h : Heap) : LeO (F26.t call lf ro px0 ox0 x1_0 x1_1 h) (bodyK Tryd.prog call lf ro Tryd.f26 [.pointer (some ⟨px0, ox0, none⟩), .agg #[.int .i64 x1_0, .int .i64 x1_1]] h) :=
  body_le (c := codeOf Tryd.f26) (H := F26.Ht call lf ro) (J := F26.Ut call lf ro) rfl (Nat.le_of_ble_eq_true rfl) ⟨(hd_free rfl), ⟨(hd_free rfl), ⟨(hd_free rfl), ⟨⟨(hd_free rfl), (fun e h hs => F26.B4 call lf ro  lf e h hs)⟩, (hd_free rfl)⟩⟩⟩⟩ (by kernel_rfl)

/-! ### barscan/aztext.latches: function 27 -/

noncomputable def F27.J5 (call : CT) (lf ro : Nat) (kb4 : Nat → Nat → (Option Addr) → Nat → Nat → Int → Int → Int → Heap → Out) (p27 : Nat) (o27 : Nat) (a28 : Option Addr) (l28 : Nat) (c28 : Nat) (n29 : Int) (n30 : Int) (n31 : Int) (h32 : Heap) : Out :=
  letJ (fun (a99 : Option Addr) (l99 : Nat) (c99 : Nat) (h100 : Heap) =>
  (kb4 p27 o27 a99 l99 c99 n29 n30 (IntKind.i64.wrap (n31 + 1)) h100)) fun j101 =>
  bindO (loadO Tryd.prog 3 (.pointer (some ⟨p27, o27 + 1, none⟩)) h32) fun v108 h109 =>
  intK .i64 v108 fun n110 =>
  bindO (call ro 54 [.int .i64 n110, .int .i64 n31] h109) fun v111 h112 =>
  intK .i64 v111 fun n113 =>
  ifK (decide (n113 ≥ 0)) (pushJ h112 1 [.int .i64 n31] fun h114 =>
  pushJ h114 1 [.int .i64 n29] fun h115 =>
  bindO (loadO Tryd.prog 3 (.pointer (some ⟨p27, o27 + 0, none⟩)) h115) fun v116 h117 =>
  intK .i64 v116 fun n118 =>
  pushJ h117 5 [.slice (some ⟨h112.next, 0, none⟩) 1 1, .slice (some ⟨h114.next, 0, none⟩) 1 1, .int .i64 0, .int .i64 n118, .int .i64 n113] fun h119 =>
  bindO (appO Tryd.prog ro 50 50 (.slice a28 l28 c28) (.slice (some ⟨h117.next, 0, none⟩) 1 1) h119) fun v120 h121 =>
  sliceK v120 fun a122 l122 c122 =>
  j101 a122 l122 c122 h121) (j101 a28 l28 c28 h112)

noncomputable def F27.PJ5 (kb : Nat → Nat → (Option Addr) → Nat → Nat → Int → Int → Int → Heap → Out) (e : Env) (h : Heap) : Out :=
  getK (e.get 1) fun w1 =>
  ptrK w1 fun p123 o123 =>
  getK (e.get 3) fun w3 =>
  sliceK w3 fun a124 l124 c124 =>
  getK (e.get 4) fun w4 =>
  intK .i64 w4 fun n125 =>
  getK (e.get 11) fun w11 =>
  intK .i64 w11 fun n126 =>
  getK (e.get 12) fun w12 =>
  intK .i64 w12 fun n127 =>
  kb p123 o123 a124 l124 c124 n125 n126 n127 h

noncomputable def F27.L4 (call : CT) (lf ro : Nat) : Nat → Nat → Nat → (Option Addr) → Nat → Nat → Int → Int → Int → Heap → Out
  | 0, _, _, _, _, _, _, _, _, _ => .fail
  | n + 1, p21, o21, a22, l22, c22, n23, n24, n25, h26 =>
  ifK (decide (n25 < n24)) (F27.J5 call lf ro (F27.L4 call lf ro n) p21 o21 a22 l22 c22 n23 n24 n25 h26) (Out.ok (.slice a22 l22 c22) h26)

noncomputable def F27.P4 (kb : Nat → Nat → (Option Addr) → Nat → Nat → Int → Int → Int → Heap → Out) (e : Env) (h : Heap) : Out :=
  getK (e.get 1) fun w1 =>
  ptrK w1 fun p128 o128 =>
  getK (e.get 3) fun w3 =>
  sliceK w3 fun a129 l129 c129 =>
  getK (e.get 4) fun w4 =>
  intK .i64 w4 fun n130 =>
  getK (e.get 11) fun w11 =>
  intK .i64 w11 fun n131 =>
  getK (e.get 12) fun w12 =>
  intK .i64 w12 fun n132 =>
  kb p128 o128 a129 l129 c129 n130 n131 n132 h

noncomputable def F27.t (call : CT) (lf ro : Nat) (x0_0 : Int) (x0_1 : Int) (h : Heap) : Out :=
  pushJ h 1 [.int .i64 x0_0, .int .i64 x0_1] fun h2 =>
  bindO (loadO Tryd.prog 3 (.pointer (some ⟨h.next, 1, none⟩)) h2) fun v9 h10 =>
  intK .i64 v9 fun n11 =>
  bindO (call ro 51 [.int .i64 n11] h10) fun v12 h13 =>
  intK .i64 v12 fun n14 =>
  bindO (binO Tryd.prog .shl 3 true (.int .i64 1) (.int .i64 n14) h13) fun v18 h19 =>
  intK .i64 v18 fun n20 =>
  F27.L4 call lf ro lf h.next 0 none 0 0 n14 n20 0 h19

noncomputable def F27.Ht (call : CT) (lf ro : Nat) (i : Nat) (e : Env) (h : Heap) : Out := ifK (i == 4) (F27.P4 (F27.L4 call lf ro lf) e h) (.fail)
noncomputable def F27.Ut (call : CT) (lf ro : Nat) (i : Nat) : Option (Env → Heap → Out) := none

noncomputable def F27.H4 (call : CT) (lf ro : Nat) (kb4 : Nat → Nat → (Option Addr) → Nat → Nat → Int → Int → Int → Heap → Out) (i : Nat) (e : Env) (h : Heap) : Out := ifK (i == 4) (F27.P4 (F27.L4 call lf ro lf) e h) (.fail)
noncomputable def F27.U4 (call : CT) (lf ro : Nat) (kb4 : Nat → Nat → (Option Addr) → Nat → Nat → Int → Int → Int → Heap → Out) (i : Nat) : Option (Env → Heap → Out) := ifJ (i == 5) (some (F27.PJ5 (F27.J5 call lf ro kb4))) (none)

noncomputable def F27.C4 (call : CT) (lf ro : Nat) : COut → Out := blockK 0 (seqH Tryd.prog call ro (F27.Ht call lf ro) (F27.Ut call lf ro) (sub (codeOf Tryd.f27) [true, true, true, true]) (endK Tryd.prog Tryd.f27))

noncomputable def F27.K4 (call : CT) (lf ro : Nat) : COut → Out := blockK 0 (seqK Tryd.prog call lf ro (sub (codeOf Tryd.f27) [true, true, true, true]) (endK Tryd.prog Tryd.f27))

noncomputable def F27.CJ5 (call : CT) (lf ro : Nat) (kb4 : Nat → Nat → (Option Addr) → Nat → Nat → Int → Int → Int → Heap → Out) : COut → Out := outK (F27.P4 kb4) (fun i e h => F27.C4 call lf ro (.exit i e h)) (fun e h => F27.C4 call lf ro (.ret e h))

noncomputable def F27.KJ5 (call : CT) (lf ro : Nat) (kb4 : Nat → Nat → (Option Addr) → Nat → Nat → Int → Int → Int → Heap → Out) : COut → Out := outK (F27.P4 kb4) (fun i e h => F27.C4 call lf ro (.exit i e h)) (fun e h => F27.C4 call lf ro (.ret e h))

theorem F27.RJ5 (call : CT) (lf ro : Nat) (kb4 : Nat → Nat → (Option Addr) → Nat → Nat → Int → Int → Int → Heap → Out) (f : Nat → Option Value) (p27 : Nat) (o27 : Nat) (a28 : Option Addr) (l28 : Nat) (c28 : Nat) (n29 : Int) (n30 : Int) (n31 : Int) (h32 : Heap) :
    execH Tryd.prog call ro (F27.H4 call lf ro kb4) (F27.U4 call lf ro kb4) (sub (codeOf Tryd.f27) [true, true, true, false, true, false, false, true, true]) (EF 35 (updF (updF (updF (updF (updF f 1 (some (.pointer (some ⟨p27, o27, none⟩)))) 3 (some (.slice a28 l28 c28))) 4 (some (.int .i64 n29))) 11 (some (.int .i64 n30))) 12 (some (.int .i64 n31)))) h32 (F27.CJ5 call lf ro kb4) = F27.J5 call lf ro kb4 p27 o27 a28 l28 c28 n29 n30 n31 h32 := by kernel_rfl

theorem F27.CKJ5 (call : CT) (lf ro : Nat) (kb4 : Nat → Nat → (Option Addr) → Nat → Nat → Int → Int → Int → Heap → Out) : KLe 35 (F27.CJ5 call lf ro kb4) (F27.KJ5 call lf ro kb4) :=
  (KLe.refl _)

theorem F27.BJ5 (call : CT) (lf ro : Nat) (kb4 : Nat → Nat → (Option Addr) → Nat → Nat → Int → Int → Int → Heap → Out) : ∀ e h, Shaped 35 e → LeO (F27.PJ5 (F27.J5 call lf ro kb4) e h) (execK Tryd.prog call lf ro (sub (codeOf Tryd.f27) [true, true, true, false, true, false, false, true, true]) e h (F27.KJ5 call lf ro kb4)) := by
    rintro e h ⟨f, rfl⟩
    unfold F27.PJ5
    refine getK_le fun w1 g1 => ?_
    rw [EF_get (by decide)] at g1
    refine ptrK_le fun p123 o123 z133 => ?_
    subst z133
    refine getK_le fun w3 g3 => ?_
    rw [EF_get (by decide)] at g3
    refine sliceK_le fun a124 l124 c124 z134 => ?_
    subst z134
    refine getK_le fun w4 g4 => ?_
    rw [EF_get (by decide)] at g4
    refine intK_le fun n125 z135 => ?_
    subst z135
    refine getK_le fun w11 g11 => ?_
    rw [EF_get (by decide)] at g11
    refine intK_le fun n126 z136 => ?_
    subst z136
    refine getK_le fun w12 g12 => ?_
    rw [EF_get (by decide)] at g12
    refine intK_le fun n127 z137 => ?_
    subst z137
    have hr := F27.RJ5 call lf ro kb4 f p123 o123 a124 l124 c124 n125 n126 n127 h
    rw [updF_same g1, updF_same g3, updF_same g4, updF_same g11, updF_same g12] at hr
    exact cut_le (H := (F27.H4 call lf ro kb4)) (J := (F27.U4 call lf ro kb4)) (F27.CKJ5 call lf ro kb4) (hd_free rfl) hr

theorem F27.R4 (call : CT) (lf ro : Nat) (n : Nat) (f : Nat → Option Value) (p21 : Nat) (o21 : Nat) (a22 : Option Addr) (l22 : Nat) (c22 : Nat) (n23 : Int) (n24 : Int) (n25 : Int) (h26 : Heap) :
    execH Tryd.prog call ro (F27.H4 call lf ro (F27.L4 call lf ro n)) (F27.U4 call lf ro (F27.L4 call lf ro n)) (sub (codeOf Tryd.f27) [true, true, true, false, true, false, false]) (EF 35 (updF (updF (updF (updF (updF f 1 (some (.pointer (some ⟨p21, o21, none⟩)))) 3 (some (.slice a22 l22 c22))) 4 (some (.int .i64 n23))) 11 (some (.int .i64 n24))) 12 (some (.int .i64 n25)))) h26 (outK (F27.P4 (F27.L4 call lf ro n)) (fun i e h => F27.C4 call lf ro (.exit i e h)) (fun e h => F27.C4 call lf ro (.ret e h))) = F27.L4 call lf ro (n + 1) p21 o21 a22 l22 c22 n23 n24 n25 h26 := by kernel_rfl

theorem F27.CK4 (call : CT) (lf ro : Nat) : KLe 35 (F27.C4 call lf ro) (F27.K4 call lf ro) :=
  (KLe.block (KLe.seq (H := (F27.Ht call lf ro)) (J := (F27.Ut call lf ro)) (KLe.refl _) (hd_free rfl)))

theorem F27.B4 (call : CT) (lf ro : Nat) : ∀ n e h, Shaped 35 e → LeO (F27.P4 (F27.L4 call lf ro n) e h) (loopK (execK Tryd.prog call lf ro (sub (codeOf Tryd.f27) [true, true, true, false, true, false, false])) n e h (F27.K4 call lf ro)) := by
  refine loop_le (fun e h k k' hs hk => execK_mono _ e h k k' hs hk) (kb := fun n => F27.P4 (F27.L4 call lf ro n)) (kx := fun i e h => F27.C4 call lf ro (.exit i e h)) (kr := fun e h => F27.C4 call lf ro (.ret e h)) ?_ ?_ (fun i e h hs => (F27.CK4 call lf ro).exit i e h hs) (fun e h hs => (F27.CK4 call lf ro).ret e h hs)
  · rintro e h ⟨f, rfl⟩
    unfold F27.P4
    refine getK_le fun w1 g1 => ?_
    rw [EF_get (by decide)] at g1
    refine ptrK_le fun p128 o128 z143 => ?_
    subst z143
    refine getK_le fun w3 g3 => ?_
    rw [EF_get (by decide)] at g3
    refine sliceK_le fun a129 l129 c129 z144 => ?_
    subst z144
    refine getK_le fun w4 g4 => ?_
    rw [EF_get (by decide)] at g4
    refine intK_le fun n130 z145 => ?_
    subst z145
    refine getK_le fun w11 g11 => ?_
    rw [EF_get (by decide)] at g11
    refine intK_le fun n131 z146 => ?_
    subst z146
    refine getK_le fun w12 g12 => ?_
    rw [EF_get (by decide)] at g12
    refine intK_le fun n132 z147 => ?_
    subst z147
    exact LeO.refl _
  · rintro n e h ⟨f, rfl⟩
    unfold F27.P4
    refine getK_le fun w1 g1 => ?_
    rw [EF_get (by decide)] at g1
    refine ptrK_le fun p128 o128 z148 => ?_
    subst z148
    refine getK_le fun w3 g3 => ?_
    rw [EF_get (by decide)] at g3
    refine sliceK_le fun a129 l129 c129 z149 => ?_
    subst z149
    refine getK_le fun w4 g4 => ?_
    rw [EF_get (by decide)] at g4
    refine intK_le fun n130 z150 => ?_
    subst z150
    refine getK_le fun w11 g11 => ?_
    rw [EF_get (by decide)] at g11
    refine intK_le fun n131 z151 => ?_
    subst z151
    refine getK_le fun w12 g12 => ?_
    rw [EF_get (by decide)] at g12
    refine intK_le fun n132 z152 => ?_
    subst z152
    have hr := F27.R4 call lf ro n f p128 o128 a129 l129 c129 n130 n131 n132 h
    rw [updF_same g1, updF_same g3, updF_same g4, updF_same g11, updF_same g12] at hr
    exact round_le (H := (F27.H4 call lf ro (F27.L4 call lf ro n))) (J := (F27.U4 call lf ro (F27.L4 call lf ro n))) ⟨(hd_free rfl), ⟨(hd_free rfl), (fun e h hs => F27.BJ5 call lf ro (F27.L4 call lf ro n) e h hs)⟩⟩ hr

theorem F27.le (call : CT) (lf ro : Nat) (x0_0 : Int) (x0_1 : Int) (h : Heap) : LeO (F27.t call lf ro x0_0 x0_1 h) (bodyK Tryd.prog call lf ro Tryd.f27 [.agg #[.int .i64 x0_0, .int .i64 x0_1]] h) :=
  body_le (c := codeOf Tryd.f27) (H := F27.Ht call lf ro) (J := F27.Ut call lf ro) rfl (Nat.le_of_ble_eq_true rfl) ⟨(hd_free rfl), ⟨(hd_free rfl), ⟨(hd_free rfl), ⟨⟨(hd_free rfl), (fun e h hs => F27.B4 call lf ro  lf e h hs)⟩, (hd_free rfl)⟩⟩⟩⟩ (by kernel_rfl)

/-! ### (*barscan/aztext.encoder).runs: function 28 -/

noncomputable def F28.J7 (call : CT) (lf ro : Nat) (kb5 : Nat → Nat → Nat → Nat → (Option Addr) → Nat → Nat → Int → Heap → Out) (p35 : Nat) (o35 : Nat) (p36 : Nat) (o36 : Nat) (a37 : Option Addr) (l37 : Nat) (c37 : Nat) (n38 : Int) (h39 : Heap) : Out :=
  pushJ h39 1 [.int .i64 31, .int .i64 n38] fun h247 =>
  pushJ h247 1 [.int .i64 5, .int .i64 5] fun h248 =>
  bindO (loadO Tryd.prog 3 (.pointer (some ⟨p36, o36 + 0, none⟩)) h248) fun v249 h250 =>
  intK .i64 v249 fun n251 =>
  bindO (loadO Tryd.prog 3 (.pointer (some ⟨p36, o36 + 1, none⟩)) h250) fun v252 h253 =>
  intK .i64 v252 fun n254 =>
  pushJ h253 1 [.slice none 0 0, .slice none 0 0, .int .i64 0, .int .i64 0, .int .i64 0] fun h255 =>
  bindO (storeO Tryd.prog ro 53 (.pointer (some ⟨h253.next, 0, none⟩)) (.agg #[.slice (some ⟨h39.next, 0, none⟩) 2 2, .slice (some ⟨h247.next, 0, none⟩) 2 2, .int .i64 n38, .int .i64 (IntKind.i64.wrap (n251 + n38)), .int .i64 n254]) h255) fun v256 h257 =>
  letJ (fun (h264 : Heap) =>
  (bindO (loadO Tryd.prog 53 (.pointer (some ⟨h253.next, 0, none⟩)) h264) fun v288 h289 =>
  aggK v288 fun q290 =>
  consK q290 fun x291 q292 =>
  sliceK x291 fun a293 l293 c293 =>
  consK q292 fun x294 q295 =>
  sliceK x294 fun a296 l296 c296 =>
  consK q295 fun x297 q298 =>
  intK .i64 x297 fun n299 =>
  consK q298 fun x300 q301 =>
  intK .i64 x300 fun n302 =>
  consK q301 fun x303 q304 =>
  intK .i64 x303 fun n305 =>
  nilK q304 <|
  pushJ h289 5 [.slice a293 l293 c293, .slice a296 l296 c296, .int .i64 n299, .int .i64 n302, .int .i64 n305] fun h306 =>
  bindO (appO Tryd.prog ro 50 50 (.slice a37 l37 c37) (.slice (some ⟨h289.next, 0, none⟩) 1 1) h306) fun v307 h308 =>
  sliceK v307 fun a309 l309 c309 =>
  kb5 p35 o35 p36 o36 a309 l309 c309 (IntKind.i64.wrap (n38 + 1)) h308)) fun j265 =>
  ifK (decide (n38 > 31)) (pushJ h257 1 [.int .i64 31, .int .i64 0, .int .i64 (IntKind.i64.wrap (n38 - 31))] fun h310 =>
  pushJ h310 1 [.int .i64 5, .int .i64 5, .int .i64 11] fun h311 =>
  bindO (storeO Tryd.prog ro 35 (.pointer (some ⟨h253.next, 0, none⟩)) (.slice (some ⟨h257.next, 0, none⟩) 3 3) h311) fun v312 h313 =>
  bindO (storeO Tryd.prog ro 35 (.pointer (some ⟨h253.next, 1, none⟩)) (.slice (some ⟨h310.next, 0, none⟩) 3 3) h313) fun v314 h315 =>
  j265 h315) (j265 h257)

noncomputable def F28.PJ7 (kb : Nat → Nat → Nat → Nat → (Option Addr) → Nat → Nat → Int → Heap → Out) (e : Env) (h : Heap) : Out :=
  getK (e.get 0) fun w0 =>
  ptrK w0 fun p316 o316 =>
  getK (e.get 3) fun w3 =>
  ptrK w3 fun p317 o317 =>
  getK (e.get 5) fun w5 =>
  sliceK w5 fun a318 l318 c318 =>
  getK (e.get 6) fun w6 =>
  intK .i64 w6 fun n319 =>
  kb p316 o316 p317 o317 a318 l318 c318 n319 h

noncomputable def F28.L5 (call : CT) (lf ro : Nat) : Nat → Nat → Nat → Nat → Nat → (Option Addr) → Nat → Nat → Int → Heap → Out
  | 0, _, _, _, _, _, _, _, _, _ => .fail
  | n + 1, p18, o18, p19, o19, a20, l20, c20, n21, h22 =>
  bindN (loadO Tryd.prog 22 (.pointer (some ⟨p18, o18 + 0, none⟩)) h22) fun v326 h327 =>
  sliceK v326 fun a328 l328 c328 =>
  bindN (loadO Tryd.prog 3 (.pointer (some ⟨p19, o19 + 0, none⟩)) h327) fun v329 h330 =>
  intK .i64 v329 fun n331 =>
  ifK (decide (n21 ≤ (if IntKind.i64.wrap ((l328 : Int) - n331) < 2078 then IntKind.i64.wrap ((l328 : Int) - n331) else 2078))) (F28.J7 call lf ro (F28.L5 call lf ro n) p18 o18 p19 o19 a20 l20 c20 n21 h330) (Out.ok (.slice a20 l20 c20) h330)

noncomputable def F28.P5 (kb : Nat → Nat → Nat → Nat → (Option Addr) → Nat → Nat → Int → Heap → Out) (e : Env) (h : Heap) : Out :=
  getK (e.get 0) fun w0 =>
  ptrK w0 fun p332 o332 =>
  getK (e.get 3) fun w3 =>
  ptrK w3 fun p333 o333 =>
  getK (e.get 5) fun w5 =>
  sliceK w5 fun a334 l334 c334 =>
  getK (e.get 6) fun w6 =>
  intK .i64 w6 fun n335 =>
  kb p332 o332 p333 o333 a334 l334 c334 n335 h

noncomputable def F28.J3 (call : CT) (lf ro : Nat) (p15 : Nat) (o15 : Nat) (p16 : Nat) (o16 : Nat) (h17 : Heap) : Out :=
  F28.L5 call lf ro lf p15 o15 p16 o16 none 0 0 1 h17

noncomputable def F28.PJ3 (kb : Nat → Nat → Nat → Nat → Heap → Out) (e : Env) (h : Heap) : Out :=
  getK (e.get 0) fun w0 =>
  ptrK w0 fun p336 o336 =>
  getK (e.get 3) fun w3 =>
  ptrK w3 fun p337 o337 =>
  kb p336 o336 p337 o337 h

noncomputable def F28.t (call : CT) (lf ro : Nat) (px0 : Nat) (ox0 : Nat) (x1_0 : Int) (x1_1 : Int) (h : Heap) : Out :=
  pushJ h 1 [.int .i64 x1_0, .int .i64 x1_1] fun h2 =>
  bindO (loadO Tryd.prog 3 (.pointer (some ⟨h.next, 1, none⟩)) h2) fun v9 h10 =>
  intK .i64 v9 fun n11 =>
  bindO (call ro 55 [.int .i64 n11] h10) fun v12 h13 =>
  boolK v12 fun b14 =>
  ifK (!b14) (Out.ok (.slice none 0 0) h13) (F28.J3 call lf ro px0 ox0 h.next 0 h13)

noncomputable def F28.Ht (call : CT) (lf ro : Nat) (i : Nat) (e : Env) (h : Heap) : Out := ifK (i == 5) (F28.P5 (F28.L5 call lf ro lf) e h) (.fail)
noncomputable def F28.Ut (call : CT) (lf ro : Nat) (i : Nat) : Option (Env → Heap → Out) := ifJ (i == 3) (some (F28.PJ3 (F28.J3 call lf ro))) (none)

noncomputable def F28.H5 (call : CT) (lf ro : Nat) (kb5 : Nat → Nat → Nat → Nat → (Option Addr) → Nat → Nat → Int → Heap → Out) (i : Nat) (e : Env) (h : Heap) : Out := ifK (i == 5) (F28.P5 (F28.L5 call lf ro lf) e h) (.fail)
noncomputable def F28.U5 (call : CT) (lf ro : Nat) (kb5 : Nat → Nat → Nat → Nat → (Option Addr) → Nat → Nat → Int → Heap → Out) (i : Nat) : Option (Env → Heap → Out) := ifJ (i == 7) (some (F28.PJ7 (F28.J7 call lf ro kb5))) (ifJ (i == 3) (some (F28.PJ3 (F28.J3 call lf ro))) (none))

noncomputable def F28.C5 (call : CT) (lf ro : Nat) : COut → Out := blockK 0 (seqH Tryd.prog call ro (F28.Ht call lf ro) (F28.Ut call lf ro) (sub (codeOf Tryd.f28) [true, true, true, true]) (endK Tryd.prog Tryd.f28))

noncomputable def F28.K5 (call : CT) (lf ro : Nat) : COut → Out := blockK 0 (seqK Tryd.prog call lf ro (sub (codeOf Tryd.f28) [true, true, true, true]) (endK Tryd.prog Tryd.f28))

noncomputable def F28.CJ3 (call : CT) (lf ro : Nat) : COut → Out := endK Tryd.prog Tryd.f28

noncomputable def F28.KJ3 (call : CT) (lf ro : Nat) : COut → Out := endK Tryd.prog Tryd.f28

noncomputable def F28.CJ7 (call : CT) (lf ro : Nat) (kb5 : Nat → Nat → Nat → Nat → (Option Addr) → Nat → Nat → Int → Heap → Out) : COut → Out := outK (F28.P5 kb5) (fun i e h => F28.C5 call lf ro (.exit i e h)) (fun e h => F28.C5 call lf ro (.ret e h))

noncomputable def F28.KJ7 (call : CT) (lf ro : Nat) (kb5 : Nat → Nat → Nat → Nat → (Option Addr) → Nat → Nat → Int → Heap → Out) : COut → Out := outK (F28.P5 kb5) (fun i e h => F28.C5 call lf ro (.exit i e h)) (fun e h => F28.C5 call lf ro (.ret e h))

theorem F28.RJ7 (call : CT) (lf ro : Nat) (kb5 : Nat → Nat → Nat → Nat → (Option Addr) → Nat → Nat → Int → Heap → Out) (f : Nat → Option Value) (p35 : Nat) (o35 : Nat) (p36 : Nat) (o36 : Nat) (a37 : Option Addr) (l37 : Nat) (c37 : Nat) (n38 : Int) (h39 : Heap) :
    execH Tryd.prog call ro (F28.H5 call lf ro kb5) (F28.U5 call lf ro kb5) (sub (codeOf Tryd.f28) [true, true, true, false, true, false, false, true]) (EF 50 (updF (updF (updF (updF f 0 (some (.pointer (some ⟨p35, o35, none⟩)))) 3 (some (.pointer (some ⟨p36, o36, none⟩)))) 5 (some (.slice a37 l37 c37))) 6 (some (.int .i64 n38)))) h39 (F28.CJ7 call lf ro kb5) = F28.J7 call lf ro kb5 p35 o35 p36 o36 a37 l37 c37 n38 h39 := by kernel_rfl

theorem F28.CKJ7 (call : CT) (lf ro : Nat) (kb5 : Nat → Nat → Nat → Nat → (Option Addr) → Nat → Nat → Int → Heap → Out) : KLe 50 (F28.CJ7 call lf ro kb5) (F28.KJ7 call lf ro kb5) :=
  (KLe.refl _)

theorem F28.BJ7 (call : CT) (lf ro : Nat) (kb5 : Nat → Nat → Nat → Nat → (Option Addr) → Nat → Nat → Int → Heap → Out) : ∀ e h, Shaped 50 e → LeO (F28.PJ7 (F28.J7 call lf ro kb5) e h) (execK Tryd.prog call lf ro (sub (codeOf Tryd.f28) [true, true, true, false, true, false, false, true]) e h (F28.KJ7 call lf ro kb5)) := by
    rintro e h ⟨f, rfl⟩
    unfold F28.PJ7
    refine getK_le fun w0 g0 => ?_
    rw [EF_get (by decide)] at g0
    refine ptrK_le fun p316 o316 z338 => ?_
    subst z338
    refine getK_le fun w3 g3 => ?_
    rw [EF_get (by decide)] at g3
    refine ptrK_le fun p317 o317 z339 => ?_
    subst z339
    refine getK_le fun w5 g5 => ?_
    rw [EF_get (by decide)] at g5
    refine sliceK_le fun a318 l318 c318 z340 => ?_
    subst z340
    refine getK_le fun w6 g6 => ?_
    rw [EF_get (by decide)] at g6
    refine intK_le fun n319 z341 => ?_
    subst z341
    have hr := F28.RJ7 call lf ro kb5 f p316 o316 p317 o317 a318 l318 c318 n319 h
    rw [updF_same g0, updF_same g3, updF_same g5, updF_same g6] at hr
    exact cut_le (H := (F28.H5 call lf ro kb5)) (J := (F28.U5 call lf ro kb5)) (F28.CKJ7 call lf ro kb5) (hd_free rfl) hr

theorem F28.R5 (call : CT) (lf ro : Nat) (n : Nat) (f : Nat → Option Value) (p18 : Nat) (o18 : Nat) (p19 : Nat) (o19 : Nat) (a20 : Option Addr) (l20 : Nat) (c20 : Nat) (n21 : Int) (h22 : Heap) :
    execH Tryd.prog call ro (F28.H5 call lf ro (F28.L5 call lf ro n)) (F28.U5 call lf ro (F28.L5 call lf ro n)) (sub (codeOf Tryd.f28) [true, true, true, false, true, false, false]) (EF 50 (updF (updF (updF (updF f 0 (some (.pointer (some ⟨p18, o18, none⟩)))) 3 (some (.pointer (some ⟨p19, o19, none⟩)))) 5 (some (.slice a20 l20 c20))) 6 (some (.int .i64 n21)))) h22 (outK (F28.P5 (F28.L5 call lf ro n)) (fun i e h => F28.C5 call lf ro (.exit i e h)) (fun e h => F28.C5 call lf ro (.ret e h))) = F28.L5 call lf ro (n + 1) p18 o18 p19 o19 a20 l20 c20 n21 h22 := by kernel_rfl

theorem F28.CK5 (call : CT) (lf ro : Nat) : KLe 50 (F28.C5 call lf ro) (F28.K5 call lf ro) :=
  (KLe.block (KLe.seq (H := (F28.Ht call lf ro)) (J := (F28.Ut call lf ro)) (KLe.refl _) (hd_free rfl)))

theorem F28.B5 (call : CT) (lf ro : Nat) : ∀ n e h, Shaped 50 e → LeO (F28.P5 (F28.L5 call lf ro n) e h) (loopK (execK Tryd.prog call lf ro (sub (codeOf Tryd.f28) [true, true, true, false, true, false, false])) n e h (F28.K5 call lf ro)) := by
  refine loop_le (fun e h k k' hs hk => execK_mono _ e h k k' hs hk) (kb := fun n => F28.P5 (F28.L5 call lf ro n)) (kx := fun i e h => F28.C5 call lf ro (.exit i e h)) (kr := fun e h => F28.C5 call lf ro (.ret e h)) ?_ ?_ (fun i e h hs => (F28.CK5 call lf ro).exit i e h hs) (fun e h hs => (F28.CK5 call lf ro).ret e h hs)
  · rintro e h ⟨f, rfl⟩
    unfold F28.P5
    refine getK_le fun w0 g0 => ?_
    rw [EF_get (by decide)] at g0
    refine ptrK_le fun p332 o332 z346 => ?_
    subst z346
    refine getK_le fun w3 g3 => ?_
    rw [EF_get (by decide)] at g3
    refine ptrK_le fun p333 o333 z347 => ?_
    subst z347
    refine getK_le fun w5 g5 => ?_
    rw [EF_get (by decide)] at g5
    refine sliceK_le fun a334 l334 c334 z348 => ?_
    subst z348
    refine getK_le fun w6 g6 => ?_
    rw [EF_get (by decide)] at g6
    refine intK_le fun n335 z349 => ?_
    subst z349
    exact LeO.refl _
  · rintro n e h ⟨f, rfl⟩
    unfold F28.P5
    refine getK_le fun w0 g0 => ?_
    rw [EF_get (by decide)] at g0
    refine ptrK_le fun p332 o332 z350 => ?_
    subst z350
    refine getK_le fun w3 g3 => ?_
    rw [EF_get (by decide)] at g3
    refine ptrK_le fun p333 o333 z351 => ?_
    subst z351
    refine getK_le fun w5 g5 => ?_
    rw [EF_get (by decide)] at g5
    refine sliceK_le fun a334 l334 c334 z352 => ?_
    subst z352
    refine getK_le fun w6 g6 => ?_
    rw [EF_get (by decide)] at g6
    refine intK_le fun n335 z353 => ?_
    subst z353
    have hr := F28.R5 call lf ro n f p332 o332 p333 o333 a334 l334 c334 n335 h
    rw [updF_same g0, updF_same g3, updF_same g5, updF_same g6] at hr
    exact round_le (H := (F28.H5 call lf ro (F28.L5 call lf ro n))) (J := (F28.U5 call lf ro (F28.L5 call lf ro n))) ⟨(hd_free rfl), (fun e h hs => F28.BJ7 call lf ro (F28.L5 call lf ro n) e h hs)⟩ hr

theorem F28.RJ3 (call : CT) (lf ro : Nat) (f : Nat → Option Value) (p15 : Nat) (o15 : Nat) (p16 : Nat) (o16 : Nat) (h17 : Heap) :
    execH Tryd.prog call ro (F28.Ht call lf ro) (F28.Ut call lf ro) (sub (codeOf Tryd.f28) [true, true]) (EF 50 (updF (updF f 0 (some (.pointer (some ⟨p15, o15, none⟩)))) 3 (some (.pointer (some ⟨p16, o16, none⟩))))) h17 (F28.CJ3 call lf ro) = F28.J3 call lf ro p15 o15 p16 o16 h17 := by kernel_rfl

theorem F28.CKJ3 (call : CT) (lf ro : Nat) : KLe 50 (F28.CJ3 call lf ro) (F28.KJ3 call lf ro) :=
  (KLe.refl _)

theorem F28.BJ3 (call : CT) (lf ro : Nat) : ∀ e h, Shaped 50 e → LeO (F28.PJ3 (F28.J3 call lf ro) e h) (execK Tryd.prog call lf ro (sub (codeOf Tryd.f28) [true, true]) e h (F28.KJ3 call lf ro)) := by
    rintro e h ⟨f, rfl⟩
    unfold F28.PJ3
    refine getK_le fun w0 g0 => ?_
    rw [EF_get (by decide)] at g0
    refine ptrK_le fun p336 o336 z354 => ?_
    subst z354
    refine getK_le fun w3 g3 => ?_
    rw [EF_get (by decide)] at g3
    refine ptrK_le fun p337 o337 z355 => ?_
    subst z355
    have hr := F28.RJ3 call lf ro f p336 o336 p337 o337 h
    rw [updF_same g0, updF_same g3] at hr
    exact cut_le (H := (F28.Ht call lf ro)) (J := (F28.Ut call lf ro)) (F28.CKJ3 call lf ro) ⟨(hd_free rfl), ⟨⟨(hd_free rfl), (fun e h hs => F28.B5 call lf ro  lf e h hs)⟩, (hd_free rfl)⟩⟩ hr

theorem F28.le (call : CT) (lf ro : Nat) (px0 : Nat) (ox0 : Nat) (x1_0 : Int) (x1_1 : Int) (h : Heap) : LeO (F28.t call lf ro px0 ox0 x1_0 x1_1 h) (bodyK Tryd.prog call lf ro Tryd.f28 [.pointer (some ⟨px0, ox0, none⟩), .agg #[.int .i64 x1_0, .int .i64 x1_1]] h) :=
  body_le (c := codeOf Tryd.f28) (H := F28.Ht call lf ro) (J := F28.Ut call lf ro) rfl (Nat.le_of_ble_eq_true rfl) ⟨(hd_free rfl), ⟨(hd_free rfl), (fun e h hs => F28.BJ3 call lf ro  e h hs)⟩⟩ (by kernel_rfl)

end Go.Proofs.YtfadfpcelhdfbaaDoor
