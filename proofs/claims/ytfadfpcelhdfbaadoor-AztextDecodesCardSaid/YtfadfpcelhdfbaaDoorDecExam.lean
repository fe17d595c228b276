/-
  The examples that the law asks first are run and hold; no statement of the seat is proved in this file.
-/
import Derived.Test.YtfadfpcelhdfbaaDoorDecTextS
import Derived.Test.YtfadfpcelhdfbaaDoorDecTextD
import Derived.Test.YtfadfpcelhdfbaaDoorDecTextA
import Derived.Test.YtfadfpcelhdfbaaDoorDecTextB
import Derived.KernelRfl
import Derived.Test.YtfadfpcelhdfbaaDoorAbsG
open Go Go.Abs Go.Proofs
set_option maxRecDepth 100000
set_option linter.unusedVariables false
namespace Go.Proofs.YtfadfpcelhdfbaaDoor

noncomputable def F11.d (call : CT) (lf ro : Nat) (args : List Value) (h : Heap) : Out :=
  nilK args <|
  F11.t call lf ro h
theorem F11.dle (call : CT) (lf ro : Nat) (args : List Value) (h : Heap) : LeO (F11.d call lf ro args h) (callBy Tryd.prog noOra call lf ro 11 args h) := by
  have e : callBy Tryd.prog noOra call lf ro 11 args h = bodyK Tryd.prog call lf ro Tryd.f11 args h := by unfold callBy noOra; simp only [Tryd.func11]
  rw [e]
  unfold F11.d
  refine nilK_le fun z227 => ?_
  subst z227
  exact F11.le call lf ro h
noncomputable def F12.d (call : CT) (lf ro : Nat) (args : List Value) (h : Heap) : Out :=
  consK args fun u1393 q1394 =>
  sliceK u1393 fun a1396 l1396 c1396 =>
  nilK q1394 <|
  F12.t call lf ro a1396 l1396 c1396 h
theorem F12.dle (call : CT) (lf ro : Nat) (args : List Value) (h : Heap) : LeO (F12.d call lf ro args h) (callBy Tryd.prog noOra call lf ro 12 args h) := by
  have e : callBy Tryd.prog noOra call lf ro 12 args h = bodyK Tryd.prog call lf ro Tryd.f12 args h := by unfold callBy noOra; simp only [Tryd.func12]
  rw [e]
  unfold F12.d
  refine consK_le fun u1393 q1394 z1395 => ?_
  subst z1395
  refine sliceK_le fun a1396 l1396 c1396 z1397 => ?_
  subst z1397
  refine nilK_le fun z1398 => ?_
  subst z1398
  exact F12.le call lf ro a1396 l1396 c1396 h
noncomputable def F14.d (call : CT) (lf ro : Nat) (args : List Value) (h : Heap) : Out :=
  consK args fun u23 q24 =>
  sliceK u23 fun a26 l26 c26 =>
  nilK q24 <|
  F14.t call lf ro a26 l26 c26 h
theorem F14.dle (call : CT) (lf ro : Nat) (args : List Value) (h : Heap) : LeO (F14.d call lf ro args h) (callBy Tryd.prog noOra call lf ro 14 args h) := by
  have e : callBy Tryd.prog noOra call lf ro 14 args h = bodyK Tryd.prog call lf ro Tryd.f14 args h := by unfold callBy noOra; simp only [Tryd.func14]
  rw [e]
  unfold F14.d
  refine consK_le fun u23 q24 z25 => ?_
  subst z25
  refine sliceK_le fun a26 l26 c26 z27 => ?_
  subst z27
  refine nilK_le fun z28 => ?_
  subst z28
  exact F14.le call lf ro a26 l26 c26 h
noncomputable def F15.d (call : CT) (lf ro : Nat) (args : List Value) (h : Heap) : Out :=
  consK args fun u116 q117 =>
  sliceK u116 fun a119 l119 c119 =>
  consK q117 fun u121 q122 =>
  sliceK u121 fun a124 l124 c124 =>
  nilK q122 <|
  F15.t call lf ro a119 l119 c119 a124 l124 c124 h
theorem F15.dle (call : CT) (lf ro : Nat) (args : List Value) (h : Heap) : LeO (F15.d call lf ro args h) (callBy Tryd.prog noOra call lf ro 15 args h) := by
  have e : callBy Tryd.prog noOra call lf ro 15 args h = bodyK Tryd.prog call lf ro Tryd.f15 args h := by unfold callBy noOra; simp only [Tryd.func15]
  rw [e]
  unfold F15.d
  refine consK_le fun u116 q117 z118 => ?_
  subst z118
  refine sliceK_le fun a119 l119 c119 z120 => ?_
  subst z120
  refine consK_le fun u121 q122 z123 => ?_
  subst z123
  refine sliceK_le fun a124 l124 c124 z125 => ?_
  subst z125
  refine nilK_le fun z126 => ?_
  subst z126
  exact F15.le call lf ro a119 l119 c119 a124 l124 c124 h
noncomputable def F16.d (call : CT) (lf ro : Nat) (args : List Value) (h : Heap) : Out :=
  consK args fun u48 q49 =>
  sliceK u48 fun a51 l51 c51 =>
  nilK q49 <|
  F16.t call lf ro a51 l51 c51 h
theorem F16.dle (call : CT) (lf ro : Nat) (args : List Value) (h : Heap) : LeO (F16.d call lf ro args h) (callBy Tryd.prog noOra call lf ro 16 args h) := by
  have e : callBy Tryd.prog noOra call lf ro 16 args h = bodyK Tryd.prog call lf ro Tryd.f16 args h := by unfold callBy noOra; simp only [Tryd.func16]
  rw [e]
  unfold F16.d
  refine consK_le fun u48 q49 z50 => ?_
  subst z50
  refine sliceK_le fun a51 l51 c51 z52 => ?_
  subst z52
  refine nilK_le fun z53 => ?_
  subst z53
  exact F16.le call lf ro a51 l51 c51 h
noncomputable def F18.d (call : CT) (lf ro : Nat) (args : List Value) (h : Heap) : Out :=
  consK args fun u277 q278 =>
  sliceK u277 fun a280 l280 c280 =>
  consK q278 fun u282 q283 =>
  intK .i64 u282 fun n285 =>
  nilK q283 <|
  F18.t call lf ro a280 l280 c280 n285 h
theorem F18.dle (call : CT) (lf ro : Nat) (args : List Value) (h : Heap) : LeO (F18.d call lf ro args h) (callBy Tryd.prog noOra call lf ro 18 args h) := by
  have e : callBy Tryd.prog noOra call lf ro 18 args h = bodyK Tryd.prog call lf ro Tryd.f18 args h := by unfold callBy noOra; simp only [Tryd.func18]
  rw [e]
  unfold F18.d
  refine consK_le fun u277 q278 z279 => ?_
  subst z279
  refine sliceK_le fun a280 l280 c280 z281 => ?_
  subst z281
  refine consK_le fun u282 q283 z284 => ?_
  subst z284
  refine intK_le fun n285 z286 => ?_
  subst z286
  refine nilK_le fun z287 => ?_
  subst z287
  exact F18.le call lf ro a280 l280 c280 n285 h
noncomputable def F20.d (call : CT) (lf ro : Nat) (args : List Value) (h : Heap) : Out :=
  consK args fun u623 q624 =>
  sliceK u623 fun a626 l626 c626 =>
  consK q624 fun u628 q629 =>
  intK .i64 u628 fun n631 =>
  nilK q629 <|
  F20.t call lf ro a626 l626 c626 n631 h
theorem F20.dle (call : CT) (lf ro : Nat) (args : List Value) (h : Heap) : LeO (F20.d call lf ro args h) (callBy Tryd.prog noOra call lf ro 20 args h) := by
  have e : callBy Tryd.prog noOra call lf ro 20 args h = bodyK Tryd.prog call lf ro Tryd.f20 args h := by unfold callBy noOra; simp only [Tryd.func20]
  rw [e]
  unfold F20.d
  refine consK_le fun u623 q624 z625 => ?_
  subst z625
  refine sliceK_le fun a626 l626 c626 z627 => ?_
  subst z627
  refine consK_le fun u628 q629 z630 => ?_
  subst z630
  refine intK_le fun n631 z632 => ?_
  subst z632
  refine nilK_le fun z633 => ?_
  subst z633
  exact F20.le call lf ro a626 l626 c626 n631 h
noncomputable def F22.d (call : CT) (lf ro : Nat) (args : List Value) (h : Heap) : Out :=
  consK args fun u116 q117 =>
  sliceK u116 fun a119 l119 c119 =>
  consK q117 fun u121 q122 =>
  sliceK u121 fun a124 l124 c124 =>
  nilK q122 <|
  F22.t call lf ro a119 l119 c119 a124 l124 c124 h
theorem F22.dle (call : CT) (lf ro : Nat) (args : List Value) (h : Heap) : LeO (F22.d call lf ro args h) (callBy Tryd.prog noOra call lf ro 22 args h) := by
  have e : callBy Tryd.prog noOra call lf ro 22 args h = bodyK Tryd.prog call lf ro Tryd.f22 args h := by unfold callBy noOra; simp only [Tryd.func22]
  rw [e]
  unfold F22.d
  refine consK_le fun u116 q117 z118 => ?_
  subst z118
  refine sliceK_le fun a119 l119 c119 z120 => ?_
  subst z120
  refine consK_le fun u121 q122 z123 => ?_
  subst z123
  refine sliceK_le fun a124 l124 c124 z125 => ?_
  subst z125
  refine nilK_le fun z126 => ?_
  subst z126
  exact F22.le call lf ro a119 l119 c119 a124 l124 c124 h
noncomputable def F23.d (call : CT) (lf ro : Nat) (args : List Value) (h : Heap) : Out :=
  consK args fun u19 q20 =>
  strK u19 fun s22 =>
  nilK q20 <|
  F23.t call lf ro s22 h
theorem F23.dle (call : CT) (lf ro : Nat) (args : List Value) (h : Heap) : LeO (F23.d call lf ro args h) (callBy Tryd.prog noOra call lf ro 23 args h) := by
  have e : callBy Tryd.prog noOra call lf ro 23 args h = bodyK Tryd.prog call lf ro Tryd.f23 args h := by unfold callBy noOra; simp only [Tryd.func23]
  rw [e]
  unfold F23.d
  refine consK_le fun u19 q20 z21 => ?_
  subst z21
  refine strK_le fun s22 z23 => ?_
  subst z23
  refine nilK_le fun z24 => ?_
  subst z24
  exact F23.le call lf ro s22 h
noncomputable def F24.d (call : CT) (lf ro : Nat) (args : List Value) (h : Heap) : Out :=
  consK args fun u76 q77 =>
  sliceK u76 fun a79 l79 c79 =>
  nilK q77 <|
  F24.t call lf ro a79 l79 c79 h
theorem F24.dle (call : CT) (lf ro : Nat) (args : List Value) (h : Heap) : LeO (F24.d call lf ro args h) (callBy Tryd.prog noOra call lf ro 24 args h) := by
  have e : callBy Tryd.prog noOra call lf ro 24 args h = bodyK Tryd.prog call lf ro Tryd.f24 args h := by unfold callBy noOra; simp only [Tryd.func24]
  rw [e]
  unfold F24.d
  refine consK_le fun u76 q77 z78 => ?_
  subst z78
  refine sliceK_le fun a79 l79 c79 z80 => ?_
  subst z80
  refine nilK_le fun z81 => ?_
  subst z81
  exact F24.le call lf ro a79 l79 c79 h
noncomputable def F25.d (call : CT) (lf ro : Nat) (args : List Value) (h : Heap) : Out :=
  consK args fun u154 q155 =>
  sliceK u154 fun a157 l157 c157 =>
  nilK q155 <|
  F25.t call lf ro a157 l157 c157 h
theorem F25.dle (call : CT) (lf ro : Nat) (args : List Value) (h : Heap) : LeO (F25.d call lf ro args h) (callBy Tryd.prog noOra call lf ro 25 args h) := by
  have e : callBy Tryd.prog noOra call lf ro 25 args h = bodyK Tryd.prog call lf ro Tryd.f25 args h := by unfold callBy noOra; simp only [Tryd.func25]
  rw [e]
  unfold F25.d
  refine consK_le fun u154 q155 z156 => ?_
  subst z156
  refine sliceK_le fun a157 l157 c157 z158 => ?_
  subst z158
  refine nilK_le fun z159 => ?_
  subst z159
  exact F25.le call lf ro a157 l157 c157 h
noncomputable def F26.d (call : CT) (lf ro : Nat) (args : List Value) (h : Heap) : Out :=
  consK args fun u1200 q1201 =>
  ptrK u1200 fun p1203 o1203 =>
  consK q1201 fun u1205 q1206 =>
  aggK u1205 fun q1209 =>
  consK q1209 fun x1210 q1211 =>
  intK .i64 x1210 fun n1212 =>
  consK q1211 fun x1213 q1214 =>
  intK .i64 x1213 fun n1215 =>
  nilK q1214 <|
  nilK q1206 <|
  F26.t call lf ro p1203 o1203 n1212 n1215 h
theorem F26.dle (call : CT) (lf ro : Nat) (args : List Value) (h : Heap) : LeO (F26.d call lf ro args h) (callBy Tryd.prog noOra call lf ro 26 args h) := by
  have e : callBy Tryd.prog noOra call lf ro 26 args h = bodyK Tryd.prog call lf ro Tryd.f26 args h := by unfold callBy noOra; simp only [Tryd.func26]
  rw [e]
  unfold F26.d
  refine consK_le fun u1200 q1201 z1202 => ?_
  subst z1202
  refine ptrK_le fun p1203 o1203 z1204 => ?_
  subst z1204
  refine consK_le fun u1205 q1206 z1207 => ?_
  subst z1207
  refine aggK_le fun q1209 z1216 => ?_
  subst z1216
  refine consK_le fun x1210 q1211 z1217 => ?_
  subst z1217
  refine intK_le fun n1212 z1218 => ?_
  subst z1218
  refine consK_le fun x1213 q1214 z1219 => ?_
  subst z1219
  refine intK_le fun n1215 z1220 => ?_
  subst z1220
  refine nilK_le fun  z1221 => ?_
  subst z1221
  refine nilK_le fun z1222 => ?_
  subst z1222
  exact F26.le call lf ro p1203 o1203 n1212 n1215 h
noncomputable def F27.d (call : CT) (lf ro : Nat) (args : List Value) (h : Heap) : Out :=
  consK args fun u153 q154 =>
  aggK u153 fun q157 =>
  consK q157 fun x158 q159 =>
  intK .i64 x158 fun n160 =>
  consK q159 fun x161 q162 =>
  intK .i64 x161 fun n163 =>
  nilK q162 <|
  nilK q154 <|
  F27.t call lf ro n160 n163 h
theorem F27.dle (call : CT) (lf ro : Nat) (args : List Value) (h : Heap) : LeO (F27.d call lf ro args h) (callBy Tryd.prog noOra call lf ro 27 args h) := by
  have e : callBy Tryd.prog noOra call lf ro 27 args h = bodyK Tryd.prog call lf ro Tryd.f27 args h := by unfold callBy noOra; simp only [Tryd.func27]
  rw [e]
  unfold F27.d
  refine consK_le fun u153 q154 z155 => ?_
  subst z155
  refine aggK_le fun q157 z164 => ?_
  subst z164
  refine consK_le fun x158 q159 z165 => ?_
  subst z165
  refine intK_le fun n160 z166 => ?_
  subst z166
  refine consK_le fun x161 q162 z167 => ?_
  subst z167
  refine intK_le fun n163 z168 => ?_
  subst z168
  refine nilK_le fun  z169 => ?_
  subst z169
  refine nilK_le fun z170 => ?_
  subst z170
  exact F27.le call lf ro n160 n163 h
noncomputable def F28.d (call : CT) (lf ro : Nat) (args : List Value) (h : Heap) : Out :=
  consK args fun u358 q359 =>
  ptrK u358 fun p361 o361 =>
  consK q359 fun u363 q364 =>
  aggK u363 fun q367 =>
  consK q367 fun x368 q369 =>
  intK .i64 x368 fun n370 =>
  consK q369 fun x371 q372 =>
  intK .i64 x371 fun n373 =>
  nilK q372 <|
  nilK q364 <|
  F28.t call lf ro p361 o361 n370 n373 h
theorem F28.dle (call : CT) (lf ro : Nat) (args : List Value) (h : Heap) : LeO (F28.d call lf ro args h) (callBy Tryd.prog noOra call lf ro 28 args h) := by
  have e : callBy Tryd.prog noOra call lf ro 28 args h = bodyK Tryd.prog call lf ro Tryd.f28 args h := by unfold callBy noOra; simp only [Tryd.func28]
  rw [e]
  unfold F28.d
  refine consK_le fun u358 q359 z360 => ?_
  subst z360
  refine ptrK_le fun p361 o361 z362 => ?_
  subst z362
  refine consK_le fun u363 q364 z365 => ?_
  subst z365
  refine aggK_le fun q367 z374 => ?_
  subst z374
  refine consK_le fun x368 q369 z375 => ?_
  subst z375
  refine intK_le fun n370 z376 => ?_
  subst z376
  refine consK_le fun x371 q372 z377 => ?_
  subst z377
  refine intK_le fun n373 z378 => ?_
  subst z378
  refine nilK_le fun  z379 => ?_
  subst z379
  refine nilK_le fun z380 => ?_
  subst z380
  exact F28.le call lf ro p361 o361 n370 n373 h
noncomputable def F29.d (call : CT) (lf ro : Nat) (args : List Value) (h : Heap) : Out :=
  consK args fun u597 q598 =>
  sliceK u597 fun a600 l600 c600 =>
  consK q598 fun u602 q603 =>
  nilK q603 <|
  F29.t call lf ro a600 l600 c600 u602 h
theorem F29.dle (call : CT) (lf ro : Nat) (args : List Value) (h : Heap) : LeO (F29.d call lf ro args h) (callBy Tryd.prog noOra call lf ro 29 args h) := by
  have e : callBy Tryd.prog noOra call lf ro 29 args h = bodyK Tryd.prog call lf ro Tryd.f29 args h := by unfold callBy noOra; simp only [Tryd.func29]
  rw [e]
  unfold F29.d
  refine consK_le fun u597 q598 z599 => ?_
  subst z599
  refine sliceK_le fun a600 l600 c600 z601 => ?_
  subst z601
  refine consK_le fun u602 q603 z604 => ?_
  subst z604
  refine nilK_le fun z605 => ?_
  subst z605
  exact F29.le call lf ro a600 l600 c600 u602 h
noncomputable def F30.d (call : CT) (lf ro : Nat) (args : List Value) (h : Heap) : Out :=
  consK args fun u125 q126 =>
  aggK u125 fun q129 =>
  consK q129 fun x130 q131 =>
  sliceK x130 fun a132 l132 c132 =>
  consK q131 fun x133 q134 =>
  sliceK x133 fun a135 l135 c135 =>
  consK q134 fun x136 q137 =>
  intK .i64 x136 fun n138 =>
  consK q137 fun x139 q140 =>
  intK .i64 x139 fun n141 =>
  consK q140 fun x142 q143 =>
  intK .i64 x142 fun n144 =>
  nilK q143 <|
  consK q126 fun u157 q158 =>
  consK q158 fun u160 q161 =>
  nilK q161 <|
  F30.t call lf ro a132 l132 c132 a135 l135 c135 n138 n141 n144 u157 u160 h
theorem F30.dle (call : CT) (lf ro : Nat) (args : List Value) (h : Heap) : LeO (F30.d call lf ro args h) (callBy Tryd.prog noOra call lf ro 30 args h) := by
  have e : callBy Tryd.prog noOra call lf ro 30 args h = bodyK Tryd.prog call lf ro Tryd.f30 args h := by unfold callBy noOra; simp only [Tryd.func30]
  rw [e]
  unfold F30.d
  refine consK_le fun u125 q126 z127 => ?_
  subst z127
  refine aggK_le fun q129 z145 => ?_
  subst z145
  refine consK_le fun x130 q131 z146 => ?_
  subst z146
  refine sliceK_le fun a132 l132 c132 z147 => ?_
  subst z147
  refine consK_le fun x133 q134 z148 => ?_
  subst z148
  refine sliceK_le fun a135 l135 c135 z149 => ?_
  subst z149
  refine consK_le fun x136 q137 z150 => ?_
  subst z150
  refine intK_le fun n138 z151 => ?_
  subst z151
  refine consK_le fun x139 q140 z152 => ?_
  subst z152
  refine intK_le fun n141 z153 => ?_
  subst z153
  refine consK_le fun x142 q143 z154 => ?_
  subst z154
  refine intK_le fun n144 z155 => ?_
  subst z155
  refine nilK_le fun  z156 => ?_
  subst z156
  refine consK_le fun u157 q158 z159 => ?_
  subst z159
  refine consK_le fun u160 q161 z162 => ?_
  subst z162
  refine nilK_le fun z163 => ?_
  subst z163
  exact F30.le call lf ro a132 l132 c132 a135 l135 c135 n138 n141 n144 u157 u160 h
noncomputable def F31.d (call : CT) (lf ro : Nat) (args : List Value) (h : Heap) : Out :=
  consK args fun u73 q74 =>
  aggK u73 fun q77 =>
  consK q77 fun x78 q79 =>
  sliceK x78 fun a80 l80 c80 =>
  consK q79 fun x81 q82 =>
  sliceK x81 fun a83 l83 c83 =>
  consK q82 fun x84 q85 =>
  intK .i64 x84 fun n86 =>
  consK q85 fun x87 q88 =>
  intK .i64 x87 fun n89 =>
  consK q88 fun x90 q91 =>
  intK .i64 x90 fun n92 =>
  nilK q91 <|
  nilK q74 <|
  F31.t call lf ro a80 l80 c80 a83 l83 c83 n86 n89 n92 h
theorem F31.dle (call : CT) (lf ro : Nat) (args : List Value) (h : Heap) : LeO (F31.d call lf ro args h) (callBy Tryd.prog noOra call lf ro 31 args h) := by
  have e : callBy Tryd.prog noOra call lf ro 31 args h = bodyK Tryd.prog call lf ro Tryd.f31 args h := by unfold callBy noOra; simp only [Tryd.func31]
  rw [e]
  unfold F31.d
  refine consK_le fun u73 q74 z75 => ?_
  subst z75
  refine aggK_le fun q77 z93 => ?_
  subst z93
  refine consK_le fun x78 q79 z94 => ?_
  subst z94
  refine sliceK_le fun a80 l80 c80 z95 => ?_
  subst z95
  refine consK_le fun x81 q82 z96 => ?_
  subst z96
  refine sliceK_le fun a83 l83 c83 z97 => ?_
  subst z97
  refine consK_le fun x84 q85 z98 => ?_
  subst z98
  refine intK_le fun n86 z99 => ?_
  subst z99
  refine consK_le fun x87 q88 z100 => ?_
  subst z100
  refine intK_le fun n89 z101 => ?_
  subst z101
  refine consK_le fun x90 q91 z102 => ?_
  subst z102
  refine intK_le fun n92 z103 => ?_
  subst z103
  refine nilK_le fun  z104 => ?_
  subst z104
  refine nilK_le fun z105 => ?_
  subst z105
  exact F31.le call lf ro a80 l80 c80 a83 l83 c83 n86 n89 n92 h
noncomputable def F32.d (call : CT) (lf ro : Nat) (args : List Value) (h : Heap) : Out :=
  consK args fun u555 q556 =>
  sliceK u555 fun a558 l558 c558 =>
  consK q556 fun u560 q561 =>
  nilK q561 <|
  F32.t call lf ro a558 l558 c558 u560 h
theorem F32.dle (call : CT) (lf ro : Nat) (args : List Value) (h : Heap) : LeO (F32.d call lf ro args h) (callBy Tryd.prog noOra call lf ro 32 args h) := by
  have e : callBy Tryd.prog noOra call lf ro 32 args h = bodyK Tryd.prog call lf ro Tryd.f32 args h := by unfold callBy noOra; simp only [Tryd.func32]
  rw [e]
  unfold F32.d
  refine consK_le fun u555 q556 z557 => ?_
  subst z557
  refine sliceK_le fun a558 l558 c558 z559 => ?_
  subst z559
  refine consK_le fun u560 q561 z562 => ?_
  subst z562
  refine nilK_le fun z563 => ?_
  subst z563
  exact F32.le call lf ro a558 l558 c558 u560 h
noncomputable def F33.d (call : CT) (lf ro : Nat) (args : List Value) (h : Heap) : Out :=
  consK args fun u95 q96 =>
  aggK u95 fun q99 =>
  consK q99 fun x100 q101 =>
  sliceK x100 fun a102 l102 c102 =>
  consK q101 fun x103 q104 =>
  sliceK x103 fun a105 l105 c105 =>
  consK q104 fun x106 q107 =>
  intK .i64 x106 fun n108 =>
  consK q107 fun x109 q110 =>
  intK .i64 x109 fun n111 =>
  consK q110 fun x112 q113 =>
  intK .i64 x112 fun n114 =>
  nilK q113 <|
  consK q96 fun u127 q128 =>
  aggK u127 fun q131 =>
  consK q131 fun x132 q133 =>
  sliceK x132 fun a134 l134 c134 =>
  consK q133 fun x135 q136 =>
  sliceK x135 fun a137 l137 c137 =>
  consK q136 fun x138 q139 =>
  intK .i64 x138 fun n140 =>
  consK q139 fun x141 q142 =>
  intK .i64 x141 fun n143 =>
  consK q142 fun x144 q145 =>
  intK .i64 x144 fun n146 =>
  nilK q145 <|
  nilK q128 <|
  F33.t call lf ro a102 l102 c102 a105 l105 c105 n108 n111 n114 a134 l134 c134 a137 l137 c137 n140 n143 n146 h
theorem F33.dle (call : CT) (lf ro : Nat) (args : List Value) (h : Heap) : LeO (F33.d call lf ro args h) (callBy Tryd.prog noOra call lf ro 33 args h) := by
  have e : callBy Tryd.prog noOra call lf ro 33 args h = bodyK Tryd.prog call lf ro Tryd.f33 args h := by unfold callBy noOra; simp only [Tryd.func33]
  rw [e]
  unfold F33.d
  refine consK_le fun u95 q96 z97 => ?_
  subst z97
  refine aggK_le fun q99 z115 => ?_
  subst z115
  refine consK_le fun x100 q101 z116 => ?_
  subst z116
  refine sliceK_le fun a102 l102 c102 z117 => ?_
  subst z117
  refine consK_le fun x103 q104 z118 => ?_
  subst z118
  refine sliceK_le fun a105 l105 c105 z119 => ?_
  subst z119
  refine consK_le fun x106 q107 z120 => ?_
  subst z120
  refine intK_le fun n108 z121 => ?_
  subst z121
  refine consK_le fun x109 q110 z122 => ?_
  subst z122
  refine intK_le fun n111 z123 => ?_
  subst z123
  refine consK_le fun x112 q113 z124 => ?_
  subst z124
  refine intK_le fun n114 z125 => ?_
  subst z125
  refine nilK_le fun  z126 => ?_
  subst z126
  refine consK_le fun u127 q128 z129 => ?_
  subst z129
  refine aggK_le fun q131 z147 => ?_
  subst z147
  refine consK_le fun x132 q133 z148 => ?_
  subst z148
  refine sliceK_le fun a134 l134 c134 z149 => ?_
  subst z149
  refine consK_le fun x135 q136 z150 => ?_
  subst z150
  refine sliceK_le fun a137 l137 c137 z151 => ?_
  subst z151
  refine consK_le fun x138 q139 z152 => ?_
  subst z152
  refine intK_le fun n140 z153 => ?_
  subst z153
  refine consK_le fun x141 q142 z154 => ?_
  subst z154
  refine intK_le fun n143 z155 => ?_
  subst z155
  refine consK_le fun x144 q145 z156 => ?_
  subst z156
  refine intK_le fun n146 z157 => ?_
  subst z157
  refine nilK_le fun  z158 => ?_
  subst z158
  refine nilK_le fun z159 => ?_
  subst z159
  exact F33.le call lf ro a102 l102 c102 a105 l105 c105 n108 n111 n114 a134 l134 c134 a137 l137 c137 n140 n143 n146 h
noncomputable def F34.d (call : CT) (lf ro : Nat) (args : List Value) (h : Heap) : Out :=
  consK args fun u235 q236 =>
  sliceK u235 fun a238 l238 c238 =>
  consK q236 fun u240 q241 =>
  sliceK u240 fun a243 l243 c243 =>
  nilK q241 <|
  F34.t call lf ro a238 l238 c238 a243 l243 c243 h
theorem F34.dle (call : CT) (lf ro : Nat) (args : List Value) (h : Heap) : LeO (F34.d call lf ro args h) (callBy Tryd.prog noOra call lf ro 34 args h) := by
  have e : callBy Tryd.prog noOra call lf ro 34 args h = bodyK Tryd.prog call lf ro Tryd.f34 args h := by unfold callBy noOra; simp only [Tryd.func34]
  rw [e]
  unfold F34.d
  refine consK_le fun u235 q236 z237 => ?_
  subst z237
  refine sliceK_le fun a238 l238 c238 z239 => ?_
  subst z239
  refine consK_le fun u240 q241 z242 => ?_
  subst z242
  refine sliceK_le fun a243 l243 c243 z244 => ?_
  subst z244
  refine nilK_le fun z245 => ?_
  subst z245
  exact F34.le call lf ro a238 l238 c238 a243 l243 c243 h
noncomputable def F35.d (call : CT) (lf ro : Nat) (args : List Value) (h : Heap) : Out :=
  consK args fun u356 q357 =>
  aggK u356 fun q360 =>
  consK q360 fun x361 q362 =>
  sliceK x361 fun a363 l363 c363 =>
  consK q362 fun x364 q365 =>
  sliceK x364 fun a366 l366 c366 =>
  consK q365 fun x367 q368 =>
  intK .i64 x367 fun n369 =>
  consK q368 fun x370 q371 =>
  intK .i64 x370 fun n372 =>
  consK q371 fun x373 q374 =>
  intK .i64 x373 fun n375 =>
  nilK q374 <|
  nilK q357 <|
  F35.t call lf ro a363 l363 c363 a366 l366 c366 n369 n372 n375 h
theorem F35.dle (call : CT) (lf ro : Nat) (args : List Value) (h : Heap) : LeO (F35.d call lf ro args h) (callBy Tryd.prog noOra call lf ro 35 args h) := by
  have e : callBy Tryd.prog noOra call lf ro 35 args h = bodyK Tryd.prog call lf ro Tryd.f35 args h := by unfold callBy noOra; simp only [Tryd.func35]
  rw [e]
  unfold F35.d
  refine consK_le fun u356 q357 z358 => ?_
  subst z358
  refine aggK_le fun q360 z376 => ?_
  subst z376
  refine consK_le fun x361 q362 z377 => ?_
  subst z377
  refine sliceK_le fun a363 l363 c363 z378 => ?_
  subst z378
  refine consK_le fun x364 q365 z379 => ?_
  subst z379
  refine sliceK_le fun a366 l366 c366 z380 => ?_
  subst z380
  refine consK_le fun x367 q368 z381 => ?_
  subst z381
  refine intK_le fun n369 z382 => ?_
  subst z382
  refine consK_le fun x370 q371 z383 => ?_
  subst z383
  refine intK_le fun n372 z384 => ?_
  subst z384
  refine consK_le fun x373 q374 z385 => ?_
  subst z385
  refine intK_le fun n375 z386 => ?_
  subst z386
  refine nilK_le fun  z387 => ?_
  subst z387
  refine nilK_le fun z388 => ?_
  subst z388
  exact F35.le call lf ro a363 l363 c363 a366 l366 c366 n369 n372 n375 h
noncomputable def F40.d (call : CT) (lf ro : Nat) (args : List Value) (h : Heap) : Out :=
  consK args fun u40 q41 =>
  ptrK u40 fun p43 o43 =>
  nilK q41 <|
  F40.t call lf ro p43 o43 h
theorem F40.dle (call : CT) (lf ro : Nat) (args : List Value) (h : Heap) : LeO (F40.d call lf ro args h) (callBy Tryd.prog noOra call lf ro 40 args h) := by
  have e : callBy Tryd.prog noOra call lf ro 40 args h = bodyK Tryd.prog call lf ro Tryd.f40 args h := by unfold callBy noOra; simp only [Tryd.func40]
  rw [e]
  unfold F40.d
  refine consK_le fun u40 q41 z42 => ?_
  subst z42
  refine ptrK_le fun p43 o43 z44 => ?_
  subst z44
  refine nilK_le fun z45 => ?_
  subst z45
  exact F40.le call lf ro p43 o43 h
noncomputable def F41.d (call : CT) (lf ro : Nat) (args : List Value) (h : Heap) : Out :=
  consK args fun u138 q139 =>
  ptrK u138 fun p141 o141 =>
  nilK q139 <|
  F41.t call lf ro p141 o141 h
theorem F41.dle (call : CT) (lf ro : Nat) (args : List Value) (h : Heap) : LeO (F41.d call lf ro args h) (callBy Tryd.prog noOra call lf ro 41 args h) := by
  have e : callBy Tryd.prog noOra call lf ro 41 args h = bodyK Tryd.prog call lf ro Tryd.f41 args h := by unfold callBy noOra; simp only [Tryd.func41]
  rw [e]
  unfold F41.d
  refine consK_le fun u138 q139 z140 => ?_
  subst z140
  refine ptrK_le fun p141 o141 z142 => ?_
  subst z142
  refine nilK_le fun z143 => ?_
  subst z143
  exact F41.le call lf ro p141 o141 h
noncomputable def F44.d (call : CT) (lf ro : Nat) (args : List Value) (h : Heap) : Out :=
  consK args fun u26 q27 =>
  intK .i64 u26 fun n29 =>
  consK q27 fun u31 q32 =>
  ptrK u31 fun p34 o34 =>
  nilK q32 <|
  F44.t call lf ro n29 p34 o34 h
theorem F44.dle (call : CT) (lf ro : Nat) (args : List Value) (h : Heap) : LeO (F44.d call lf ro args h) (callBy Tryd.prog noOra call lf ro 44 args h) := by
  have e : callBy Tryd.prog noOra call lf ro 44 args h = bodyK Tryd.prog call lf ro Tryd.f44 args h := by unfold callBy noOra; simp only [Tryd.func44]
  rw [e]
  unfold F44.d
  refine consK_le fun u26 q27 z28 => ?_
  subst z28
  refine intK_le fun n29 z30 => ?_
  subst z30
  refine consK_le fun u31 q32 z33 => ?_
  subst z33
  refine ptrK_le fun p34 o34 z35 => ?_
  subst z35
  refine nilK_le fun z36 => ?_
  subst z36
  exact F44.le call lf ro n29 p34 o34 h
noncomputable def F45.d (call : CT) (lf ro : Nat) (args : List Value) (h : Heap) : Out :=
  consK args fun u7 q8 =>
  sliceK u7 fun a10 l10 c10 =>
  consK q8 fun u12 q13 =>
  funK 46 u12 fun q16 q17 =>
  nilK q16 <|
  consK q17 fun x18 q19 =>
  ptrK x18 fun p20 o20 =>
  nilK q19 <|
  nilK q13 <|
  F45.t call lf ro a10 l10 c10 p20 o20 h
theorem F45.dle (call : CT) (lf ro : Nat) (args : List Value) (h : Heap) : LeO (F45.d call lf ro args h) (callBy Tryd.prog noOra call lf ro 45 args h) := by
  have e : callBy Tryd.prog noOra call lf ro 45 args h = bodyK Tryd.prog call lf ro Tryd.f45 args h := by unfold callBy noOra; simp only [Tryd.func45]
  rw [e]
  unfold F45.d
  refine consK_le fun u7 q8 z9 => ?_
  subst z9
  refine sliceK_le fun a10 l10 c10 z11 => ?_
  subst z11
  refine consK_le fun u12 q13 z14 => ?_
  subst z14
  refine funK_le fun q16 q17 z21 => ?_
  subst z21
  refine nilK_le fun  z22 => ?_
  subst z22
  refine consK_le fun x18 q19 z23 => ?_
  subst z23
  refine ptrK_le fun p20 o20 z24 => ?_
  subst z24
  refine nilK_le fun  z25 => ?_
  subst z25
  refine nilK_le fun z26 => ?_
  subst z26
  exact F45.le call lf ro a10 l10 c10 p20 o20 h
noncomputable def F46.d (call : CT) (lf ro : Nat) (args : List Value) (h : Heap) : Out :=
  consK args fun u16 q17 =>
  intK .i64 u16 fun n19 =>
  consK q17 fun u21 q22 =>
  ptrK u21 fun p24 o24 =>
  nilK q22 <|
  F46.t call lf ro n19 p24 o24 h
theorem F46.dle (call : CT) (lf ro : Nat) (args : List Value) (h : Heap) : LeO (F46.d call lf ro args h) (callBy Tryd.prog noOra call lf ro 46 args h) := by
  have e : callBy Tryd.prog noOra call lf ro 46 args h = bodyK Tryd.prog call lf ro Tryd.f46 args h := by unfold callBy noOra; simp only [Tryd.func46]
  rw [e]
  unfold F46.d
  refine consK_le fun u16 q17 z18 => ?_
  subst z18
  refine intK_le fun n19 z20 => ?_
  subst z20
  refine consK_le fun u21 q22 z23 => ?_
  subst z23
  refine ptrK_le fun p24 o24 z25 => ?_
  subst z25
  refine nilK_le fun z26 => ?_
  subst z26
  exact F46.le call lf ro n19 p24 o24 h
noncomputable def F47.d (call : CT) (lf ro : Nat) (args : List Value) (h : Heap) : Out :=
  consK args fun u134 q135 =>
  strK u134 fun s137 =>
  nilK q135 <|
  F47.t call lf ro s137 h
theorem F47.dle (call : CT) (lf ro : Nat) (args : List Value) (h : Heap) : LeO (F47.d call lf ro args h) (callBy Tryd.prog noOra call lf ro 47 args h) := by
  have e : callBy Tryd.prog noOra call lf ro 47 args h = bodyK Tryd.prog call lf ro Tryd.f47 args h := by unfold callBy noOra; simp only [Tryd.func47]
  rw [e]
  unfold F47.d
  refine consK_le fun u134 q135 z136 => ?_
  subst z136
  refine strK_le fun s137 z138 => ?_
  subst z138
  refine nilK_le fun z139 => ?_
  subst z139
  exact F47.le call lf ro s137 h
noncomputable def F48.d (call : CT) (lf ro : Nat) (args : List Value) (h : Heap) : Out :=
  consK args fun u267 q268 =>
  intK .i64 u267 fun n270 =>
  nilK q268 <|
  F48.t call lf ro n270 h
theorem F48.dle (call : CT) (lf ro : Nat) (args : List Value) (h : Heap) : LeO (F48.d call lf ro args h) (callBy Tryd.prog noOra call lf ro 48 args h) := by
  have e : callBy Tryd.prog noOra call lf ro 48 args h = bodyK Tryd.prog call lf ro Tryd.f48 args h := by unfold callBy noOra; simp only [Tryd.func48]
  rw [e]
  unfold F48.d
  refine consK_le fun u267 q268 z269 => ?_
  subst z269
  refine intK_le fun n270 z271 => ?_
  subst z271
  refine nilK_le fun z272 => ?_
  subst z272
  exact F48.le call lf ro n270 h
noncomputable def F49.d (call : CT) (lf ro : Nat) (args : List Value) (h : Heap) : Out :=
  consK args fun u5699 q5700 =>
  ptrK u5699 fun p5702 o5702 =>
  consK q5700 fun u5704 q5705 =>
  intK .i64 u5704 fun n5707 =>
  nilK q5705 <|
  F49.t call lf ro p5702 o5702 n5707 h
theorem F49.dle (call : CT) (lf ro : Nat) (args : List Value) (h : Heap) : LeO (F49.d call lf ro args h) (callBy Tryd.prog noOra call lf ro 49 args h) := by
  have e : callBy Tryd.prog noOra call lf ro 49 args h = bodyK Tryd.prog call lf ro Tryd.f49 args h := by unfold callBy noOra; simp only [Tryd.func49]
  rw [e]
  unfold F49.d
  refine consK_le fun u5699 q5700 z5701 => ?_
  subst z5701
  refine ptrK_le fun p5702 o5702 z5703 => ?_
  subst z5703
  refine consK_le fun u5704 q5705 z5706 => ?_
  subst z5706
  refine intK_le fun n5707 z5708 => ?_
  subst z5708
  refine nilK_le fun z5709 => ?_
  subst z5709
  exact F49.le call lf ro p5702 o5702 n5707 h
noncomputable def F50.d (call : CT) (lf ro : Nat) (args : List Value) (h : Heap) : Out :=
  consK args fun u43 q44 =>
  sliceK u43 fun a46 l46 c46 =>
  consK q44 fun u48 q49 =>
  intK .i64 u48 fun n51 =>
  nilK q49 <|
  F50.t call lf ro a46 l46 c46 n51 h
theorem F50.dle (call : CT) (lf ro : Nat) (args : List Value) (h : Heap) : LeO (F50.d call lf ro args h) (callBy Tryd.prog noOra call lf ro 50 args h) := by
  have e : callBy Tryd.prog noOra call lf ro 50 args h = bodyK Tryd.prog call lf ro Tryd.f50 args h := by unfold callBy noOra; simp only [Tryd.func50]
  rw [e]
  unfold F50.d
  refine consK_le fun u43 q44 z45 => ?_
  subst z45
  refine sliceK_le fun a46 l46 c46 z47 => ?_
  subst z47
  refine consK_le fun u48 q49 z50 => ?_
  subst z50
  refine intK_le fun n51 z52 => ?_
  subst z52
  refine nilK_le fun z53 => ?_
  subst z53
  exact F50.le call lf ro a46 l46 c46 n51 h
noncomputable def F51.d (call : CT) (lf ro : Nat) (args : List Value) (h : Heap) : Out :=
  consK args fun u1 q2 =>
  intK .i64 u1 fun n4 =>
  nilK q2 <|
  F51.t call lf ro n4 h
theorem F51.dle (call : CT) (lf ro : Nat) (args : List Value) (h : Heap) : LeO (F51.d call lf ro args h) (callBy Tryd.prog noOra call lf ro 51 args h) := by
  have e : callBy Tryd.prog noOra call lf ro 51 args h = bodyK Tryd.prog call lf ro Tryd.f51 args h := by unfold callBy noOra; simp only [Tryd.func51]
  rw [e]
  unfold F51.d
  refine consK_le fun u1 q2 z3 => ?_
  subst z3
  refine intK_le fun n4 z5 => ?_
  subst z5
  refine nilK_le fun z6 => ?_
  subst z6
  exact F51.le call lf ro n4 h
noncomputable def F52.d (call : CT) (lf ro : Nat) (args : List Value) (h : Heap) : Out :=
  consK args fun u34 q35 =>
  ptrK u34 fun p37 o37 =>
  consK q35 fun u39 q40 =>
  intK .i64 u39 fun n42 =>
  consK q40 fun u44 q45 =>
  strK u44 fun s47 =>
  nilK q45 <|
  F52.t call lf ro p37 o37 n42 s47 h
theorem F52.dle (call : CT) (lf ro : Nat) (args : List Value) (h : Heap) : LeO (F52.d call lf ro args h) (callBy Tryd.prog noOra call lf ro 52 args h) := by
  have e : callBy Tryd.prog noOra call lf ro 52 args h = bodyK Tryd.prog call lf ro Tryd.f52 args h := by unfold callBy noOra; simp only [Tryd.func52]
  rw [e]
  unfold F52.d
  refine consK_le fun u34 q35 z36 => ?_
  subst z36
  refine ptrK_le fun p37 o37 z38 => ?_
  subst z38
  refine consK_le fun u39 q40 z41 => ?_
  subst z41
  refine intK_le fun n42 z43 => ?_
  subst z43
  refine consK_le fun u44 q45 z46 => ?_
  subst z46
  refine strK_le fun s47 z48 => ?_
  subst z48
  refine nilK_le fun z49 => ?_
  subst z49
  exact F52.le call lf ro p37 o37 n42 s47 h
noncomputable def F53.d (call : CT) (lf ro : Nat) (args : List Value) (h : Heap) : Out :=
  consK args fun u31 q32 =>
  intK .i64 u31 fun n34 =>
  consK q32 fun u36 q37 =>
  intK .i64 u36 fun n39 =>
  nilK q37 <|
  F53.t call lf ro n34 n39 h
theorem F53.dle (call : CT) (lf ro : Nat) (args : List Value) (h : Heap) : LeO (F53.d call lf ro args h) (callBy Tryd.prog noOra call lf ro 53 args h) := by
  have e : callBy Tryd.prog noOra call lf ro 53 args h = bodyK Tryd.prog call lf ro Tryd.f53 args h := by unfold callBy noOra; simp only [Tryd.func53]
  rw [e]
  unfold F53.d
  refine consK_le fun u31 q32 z33 => ?_
  subst z33
  refine intK_le fun n34 z35 => ?_
  subst z35
  refine consK_le fun u36 q37 z38 => ?_
  subst z38
  refine intK_le fun n39 z40 => ?_
  subst z40
  refine nilK_le fun z41 => ?_
  subst z41
  exact F53.le call lf ro n34 n39 h
noncomputable def F54.d (call : CT) (lf ro : Nat) (args : List Value) (h : Heap) : Out :=
  consK args fun u115 q116 =>
  intK .i64 u115 fun n118 =>
  consK q116 fun u120 q121 =>
  intK .i64 u120 fun n123 =>
  nilK q121 <|
  F54.t call lf ro n118 n123 h
theorem F54.dle (call : CT) (lf ro : Nat) (args : List Value) (h : Heap) : LeO (F54.d call lf ro args h) (callBy Tryd.prog noOra call lf ro 54 args h) := by
  have e : callBy Tryd.prog noOra call lf ro 54 args h = bodyK Tryd.prog call lf ro Tryd.f54 args h := by unfold callBy noOra; simp only [Tryd.func54]
  rw [e]
  unfold F54.d
  refine consK_le fun u115 q116 z117 => ?_
  subst z117
  refine intK_le fun n118 z119 => ?_
  subst z119
  refine consK_le fun u120 q121 z122 => ?_
  subst z122
  refine intK_le fun n123 z124 => ?_
  subst z124
  refine nilK_le fun z125 => ?_
  subst z125
  exact F54.le call lf ro n118 n123 h
noncomputable def F55.d (call : CT) (lf ro : Nat) (args : List Value) (h : Heap) : Out :=
  consK args fun u3 q4 =>
  intK .i64 u3 fun n6 =>
  nilK q4 <|
  F55.t call lf ro n6 h
theorem F55.dle (call : CT) (lf ro : Nat) (args : List Value) (h : Heap) : LeO (F55.d call lf ro args h) (callBy Tryd.prog noOra call lf ro 55 args h) := by
  have e : callBy Tryd.prog noOra call lf ro 55 args h = bodyK Tryd.prog call lf ro Tryd.f55 args h := by unfold callBy noOra; simp only [Tryd.func55]
  rw [e]
  unfold F55.d
  refine consK_le fun u3 q4 z5 => ?_
  subst z5
  refine intK_le fun n6 z7 => ?_
  subst z7
  refine nilK_le fun z8 => ?_
  subst z8
  exact F55.le call lf ro n6 h
noncomputable def F56.d (call : CT) (lf ro : Nat) (args : List Value) (h : Heap) : Out :=
  consK args fun u213 q214 =>
  sliceK u213 fun a216 l216 c216 =>
  consK q214 fun u218 q219 =>
  nilK q219 <|
  F56.t call lf ro a216 l216 c216 u218 h
theorem F56.dle (call : CT) (lf ro : Nat) (args : List Value) (h : Heap) : LeO (F56.d call lf ro args h) (callBy Tryd.prog noOra call lf ro 56 args h) := by
  have e : callBy Tryd.prog noOra call lf ro 56 args h = bodyK Tryd.prog call lf ro Tryd.f56 args h := by unfold callBy noOra; simp only [Tryd.func56]
  rw [e]
  unfold F56.d
  refine consK_le fun u213 q214 z215 => ?_
  subst z215
  refine sliceK_le fun a216 l216 c216 z217 => ?_
  subst z217
  refine consK_le fun u218 q219 z220 => ?_
  subst z220
  refine nilK_le fun z221 => ?_
  subst z221
  exact F56.le call lf ro a216 l216 c216 u218 h
noncomputable def F58.d (call : CT) (lf ro : Nat) (args : List Value) (h : Heap) : Out :=
  consK args fun u178 q179 =>
  intK .i64 u178 fun n181 =>
  consK q179 fun u183 q184 =>
  intK .i64 u183 fun n186 =>
  nilK q184 <|
  F58.t call lf ro n181 n186 h
theorem F58.dle (call : CT) (lf ro : Nat) (args : List Value) (h : Heap) : LeO (F58.d call lf ro args h) (callBy Tryd.prog noOra call lf ro 58 args h) := by
  have e : callBy Tryd.prog noOra call lf ro 58 args h = bodyK Tryd.prog call lf ro Tryd.f58 args h := by unfold callBy noOra; simp only [Tryd.func58]
  rw [e]
  unfold F58.d
  refine consK_le fun u178 q179 z180 => ?_
  subst z180
  refine intK_le fun n181 z182 => ?_
  subst z182
  refine consK_le fun u183 q184 z185 => ?_
  subst z185
  refine intK_le fun n186 z187 => ?_
  subst z187
  refine nilK_le fun z188 => ?_
  subst z188
  exact F58.le call lf ro n181 n186 h
noncomputable def F62.d (call : CT) (lf ro : Nat) (args : List Value) (h : Heap) : Out :=
  consK args fun u7 q8 =>
  sliceK u7 fun a10 l10 c10 =>
  consK q8 fun u12 q13 =>
  boolK u12 fun b15 =>
  nilK q13 <|
  F62.t call lf ro a10 l10 c10 b15 h
theorem F62.dle (call : CT) (lf ro : Nat) (args : List Value) (h : Heap) : LeO (F62.d call lf ro args h) (callBy Tryd.prog noOra call lf ro 62 args h) := by
  have e : callBy Tryd.prog noOra call lf ro 62 args h = bodyK Tryd.prog call lf ro Tryd.f62 args h := by unfold callBy noOra; simp only [Tryd.func62]
  rw [e]
  unfold F62.d
  refine consK_le fun u7 q8 z9 => ?_
  subst z9
  refine sliceK_le fun a10 l10 c10 z11 => ?_
  subst z11
  refine consK_le fun u12 q13 z14 => ?_
  subst z14
  refine boolK_le fun b15 z16 => ?_
  subst z16
  refine nilK_le fun z17 => ?_
  subst z17
  exact F62.le call lf ro a10 l10 c10 b15 h
noncomputable def F63.d (call : CT) (lf ro : Nat) (args : List Value) (h : Heap) : Out :=
  consK args fun u152 q153 =>
  ptrK u152 fun p155 o155 =>
  consK q153 fun u157 q158 =>
  intK .i64 u157 fun n160 =>
  nilK q158 <|
  F63.t call lf ro p155 o155 n160 h
theorem F63.dle (call : CT) (lf ro : Nat) (args : List Value) (h : Heap) : LeO (F63.d call lf ro args h) (callBy Tryd.prog noOra call lf ro 63 args h) := by
  have e : callBy Tryd.prog noOra call lf ro 63 args h = bodyK Tryd.prog call lf ro Tryd.f63 args h := by unfold callBy noOra; simp only [Tryd.func63]
  rw [e]
  unfold F63.d
  refine consK_le fun u152 q153 z154 => ?_
  subst z154
  refine ptrK_le fun p155 o155 z156 => ?_
  subst z156
  refine consK_le fun u157 q158 z159 => ?_
  subst z159
  refine intK_le fun n160 z161 => ?_
  subst z161
  refine nilK_le fun z162 => ?_
  subst z162
  exact F63.le call lf ro p155 o155 n160 h
noncomputable def F64.d (call : CT) (lf ro : Nat) (args : List Value) (h : Heap) : Out :=
  consK args fun u27 q28 =>
  intK .i64 u27 fun n30 =>
  consK q28 fun u32 q33 =>
  intK .i64 u32 fun n35 =>
  nilK q33 <|
  F64.t call lf ro n30 n35 h
theorem F64.dle (call : CT) (lf ro : Nat) (args : List Value) (h : Heap) : LeO (F64.d call lf ro args h) (callBy Tryd.prog noOra call lf ro 64 args h) := by
  have e : callBy Tryd.prog noOra call lf ro 64 args h = bodyK Tryd.prog call lf ro Tryd.f64 args h := by unfold callBy noOra; simp only [Tryd.func64]
  rw [e]
  unfold F64.d
  refine consK_le fun u27 q28 z29 => ?_
  subst z29
  refine intK_le fun n30 z31 => ?_
  subst z31
  refine consK_le fun u32 q33 z34 => ?_
  subst z34
  refine intK_le fun n35 z36 => ?_
  subst z36
  refine nilK_le fun z37 => ?_
  subst z37
  exact F64.le call lf ro n30 n35 h
noncomputable def F65.d (call : CT) (lf ro : Nat) (args : List Value) (h : Heap) : Out :=
  consK args fun u54 q55 =>
  ptrK u54 fun p57 o57 =>
  consK q55 fun u59 q60 =>
  intK .i64 u59 fun n62 =>
  nilK q60 <|
  F65.t call lf ro p57 o57 n62 h
theorem F65.dle (call : CT) (lf ro : Nat) (args : List Value) (h : Heap) : LeO (F65.d call lf ro args h) (callBy Tryd.prog noOra call lf ro 65 args h) := by
  have e : callBy Tryd.prog noOra call lf ro 65 args h = bodyK Tryd.prog call lf ro Tryd.f65 args h := by unfold callBy noOra; simp only [Tryd.func65]
  rw [e]
  unfold F65.d
  refine consK_le fun u54 q55 z56 => ?_
  subst z56
  refine ptrK_le fun p57 o57 z58 => ?_
  subst z58
  refine consK_le fun u59 q60 z61 => ?_
  subst z61
  refine intK_le fun n62 z63 => ?_
  subst z63
  refine nilK_le fun z64 => ?_
  subst z64
  exact F65.le call lf ro p57 o57 n62 h
noncomputable def F66.d (call : CT) (lf ro : Nat) (args : List Value) (h : Heap) : Out :=
  consK args fun u207 q208 =>
  ptrK u207 fun p210 o210 =>
  nilK q208 <|
  F66.t call lf ro p210 o210 h
theorem F66.dle (call : CT) (lf ro : Nat) (args : List Value) (h : Heap) : LeO (F66.d call lf ro args h) (callBy Tryd.prog noOra call lf ro 66 args h) := by
  have e : callBy Tryd.prog noOra call lf ro 66 args h = bodyK Tryd.prog call lf ro Tryd.f66 args h := by unfold callBy noOra; simp only [Tryd.func66]
  rw [e]
  unfold F66.d
  refine consK_le fun u207 q208 z209 => ?_
  subst z209
  refine ptrK_le fun p210 o210 z211 => ?_
  subst z211
  refine nilK_le fun z212 => ?_
  subst z212
  exact F66.le call lf ro p210 o210 h
noncomputable def F69.d (call : CT) (lf ro : Nat) (args : List Value) (h : Heap) : Out :=
  consK args fun u125 q126 =>
  sliceK u125 fun a128 l128 c128 =>
  consK q126 fun u130 q131 =>
  funK 46 u130 fun q134 q135 =>
  nilK q134 <|
  consK q135 fun x136 q137 =>
  ptrK x136 fun p138 o138 =>
  nilK q137 <|
  nilK q131 <|
  F69.t call lf ro a128 l128 c128 p138 o138 h
theorem F69.dle (call : CT) (lf ro : Nat) (args : List Value) (h : Heap) : LeO (F69.d call lf ro args h) (callBy Tryd.prog noOra call lf ro 69 args h) := by
  have e : callBy Tryd.prog noOra call lf ro 69 args h = bodyK Tryd.prog call lf ro Tryd.f69 args h := by unfold callBy noOra; simp only [Tryd.func69]
  rw [e]
  unfold F69.d
  refine consK_le fun u125 q126 z127 => ?_
  subst z127
  refine sliceK_le fun a128 l128 c128 z129 => ?_
  subst z129
  refine consK_le fun u130 q131 z132 => ?_
  subst z132
  refine funK_le fun q134 q135 z139 => ?_
  subst z139
  refine nilK_le fun  z140 => ?_
  subst z140
  refine consK_le fun x136 q137 z141 => ?_
  subst z141
  refine ptrK_le fun p138 o138 z142 => ?_
  subst z142
  refine nilK_le fun  z143 => ?_
  subst z143
  refine nilK_le fun z144 => ?_
  subst z144
  exact F69.le call lf ro a128 l128 c128 p138 o138 h
noncomputable def F70.d (call : CT) (lf ro : Nat) (args : List Value) (h : Heap) : Out :=
  consK args fun u7 q8 =>
  strK u7 fun s10 =>
  nilK q8 <|
  F70.t call lf ro s10 h
theorem F70.dle (call : CT) (lf ro : Nat) (args : List Value) (h : Heap) : LeO (F70.d call lf ro args h) (callBy Tryd.prog noOra call lf ro 70 args h) := by
  have e : callBy Tryd.prog noOra call lf ro 70 args h = bodyK Tryd.prog call lf ro Tryd.f70 args h := by unfold callBy noOra; simp only [Tryd.func70]
  rw [e]
  unfold F70.d
  refine consK_le fun u7 q8 z9 => ?_
  subst z9
  refine strK_le fun s10 z11 => ?_
  subst z11
  refine nilK_le fun z12 => ?_
  subst z12
  exact F70.le call lf ro s10 h
noncomputable def F71.d (call : CT) (lf ro : Nat) (args : List Value) (h : Heap) : Out :=
  consK args fun u7 q8 =>
  strK u7 fun s10 =>
  consK q8 fun u12 q13 =>
  strK u12 fun s15 =>
  nilK q13 <|
  F71.t call lf ro s10 s15 h
theorem F71.dle (call : CT) (lf ro : Nat) (args : List Value) (h : Heap) : LeO (F71.d call lf ro args h) (callBy Tryd.prog noOra call lf ro 71 args h) := by
  have e : callBy Tryd.prog noOra call lf ro 71 args h = bodyK Tryd.prog call lf ro Tryd.f71 args h := by unfold callBy noOra; simp only [Tryd.func71]
  rw [e]
  unfold F71.d
  refine consK_le fun u7 q8 z9 => ?_
  subst z9
  refine strK_le fun s10 z11 => ?_
  subst z11
  refine consK_le fun u12 q13 z14 => ?_
  subst z14
  refine strK_le fun s15 z16 => ?_
  subst z16
  refine nilK_le fun z17 => ?_
  subst z17
  exact F71.le call lf ro s10 s15 h
noncomputable def F72.d (call : CT) (lf ro : Nat) (args : List Value) (h : Heap) : Out :=
  consK args fun u1 q2 =>
  intK .i64 u1 fun n4 =>
  nilK q2 <|
  F72.t call lf ro n4 h
theorem F72.dle (call : CT) (lf ro : Nat) (args : List Value) (h : Heap) : LeO (F72.d call lf ro args h) (callBy Tryd.prog noOra call lf ro 72 args h) := by
  have e : callBy Tryd.prog noOra call lf ro 72 args h = bodyK Tryd.prog call lf ro Tryd.f72 args h := by unfold callBy noOra; simp only [Tryd.func72]
  rw [e]
  unfold F72.d
  refine consK_le fun u1 q2 z3 => ?_
  subst z3
  refine intK_le fun n4 z5 => ?_
  subst z5
  refine nilK_le fun z6 => ?_
  subst z6
  exact F72.le call lf ro n4 h
noncomputable def F73.d (call : CT) (lf ro : Nat) (args : List Value) (h : Heap) : Out :=
  consK args fun u7 q8 =>
  strK u7 fun s10 =>
  consK q8 fun u12 q13 =>
  strK u12 fun s15 =>
  nilK q13 <|
  F73.t call lf ro s10 s15 h
theorem F73.dle (call : CT) (lf ro : Nat) (args : List Value) (h : Heap) : LeO (F73.d call lf ro args h) (callBy Tryd.prog noOra call lf ro 73 args h) := by
  have e : callBy Tryd.prog noOra call lf ro 73 args h = bodyK Tryd.prog call lf ro Tryd.f73 args h := by unfold callBy noOra; simp only [Tryd.func73]
  rw [e]
  unfold F73.d
  refine consK_le fun u7 q8 z9 => ?_
  subst z9
  refine strK_le fun s10 z11 => ?_
  subst z11
  refine consK_le fun u12 q13 z14 => ?_
  subst z14
  refine strK_le fun s15 z16 => ?_
  subst z16
  refine nilK_le fun z17 => ?_
  subst z17
  exact F73.le call lf ro s10 s15 h
noncomputable def F74.d (call : CT) (lf ro : Nat) (args : List Value) (h : Heap) : Out :=
  consK args fun u75 q76 =>
  sliceK u75 fun a78 l78 c78 =>
  consK q76 fun u80 q81 =>
  boolK u80 fun b83 =>
  nilK q81 <|
  F74.t call lf ro a78 l78 c78 b83 h
theorem F74.dle (call : CT) (lf ro : Nat) (args : List Value) (h : Heap) : LeO (F74.d call lf ro args h) (callBy Tryd.prog noOra call lf ro 74 args h) := by
  have e : callBy Tryd.prog noOra call lf ro 74 args h = bodyK Tryd.prog call lf ro Tryd.f74 args h := by unfold callBy noOra; simp only [Tryd.func74]
  rw [e]
  unfold F74.d
  refine consK_le fun u75 q76 z77 => ?_
  subst z77
  refine sliceK_le fun a78 l78 c78 z79 => ?_
  subst z79
  refine consK_le fun u80 q81 z82 => ?_
  subst z82
  refine boolK_le fun b83 z84 => ?_
  subst z84
  refine nilK_le fun z85 => ?_
  subst z85
  exact F74.le call lf ro a78 l78 c78 b83 h
noncomputable def F75.d (call : CT) (lf ro : Nat) (args : List Value) (h : Heap) : Out :=
  consK args fun u199 q200 =>
  strK u199 fun s202 =>
  consK q200 fun u204 q205 =>
  strK u204 fun s207 =>
  consK q205 fun u209 q210 =>
  intK .i64 u209 fun n212 =>
  consK q210 fun u214 q215 =>
  intK .i64 u214 fun n217 =>
  nilK q215 <|
  F75.t call lf ro s202 s207 n212 n217 h
theorem F75.dle (call : CT) (lf ro : Nat) (args : List Value) (h : Heap) : LeO (F75.d call lf ro args h) (callBy Tryd.prog noOra call lf ro 75 args h) := by
  have e : callBy Tryd.prog noOra call lf ro 75 args h = bodyK Tryd.prog call lf ro Tryd.f75 args h := by unfold callBy noOra; simp only [Tryd.func75]
  rw [e]
  unfold F75.d
  refine consK_le fun u199 q200 z201 => ?_
  subst z201
  refine strK_le fun s202 z203 => ?_
  subst z203
  refine consK_le fun u204 q205 z206 => ?_
  subst z206
  refine strK_le fun s207 z208 => ?_
  subst z208
  refine consK_le fun u209 q210 z211 => ?_
  subst z211
  refine intK_le fun n212 z213 => ?_
  subst z213
  refine consK_le fun u214 q215 z216 => ?_
  subst z216
  refine intK_le fun n217 z218 => ?_
  subst z218
  refine nilK_le fun z219 => ?_
  subst z219
  exact F75.le call lf ro s202 s207 n212 n217 h
noncomputable def F76.d (call : CT) (lf ro : Nat) (args : List Value) (h : Heap) : Out :=
  consK args fun u10 q11 =>
  strK u10 fun s13 =>
  consK q11 fun u15 q16 =>
  strK u15 fun s18 =>
  nilK q16 <|
  F76.t call lf ro s13 s18 h
theorem F76.dle (call : CT) (lf ro : Nat) (args : List Value) (h : Heap) : LeO (F76.d call lf ro args h) (callBy Tryd.prog noOra call lf ro 76 args h) := by
  have e : callBy Tryd.prog noOra call lf ro 76 args h = bodyK Tryd.prog call lf ro Tryd.f76 args h := by unfold callBy noOra; simp only [Tryd.func76]
  rw [e]
  unfold F76.d
  refine consK_le fun u10 q11 z12 => ?_
  subst z12
  refine strK_le fun s13 z14 => ?_
  subst z14
  refine consK_le fun u15 q16 z17 => ?_
  subst z17
  refine strK_le fun s18 z19 => ?_
  subst z19
  refine nilK_le fun z20 => ?_
  subst z20
  exact F76.le call lf ro s13 s18 h
noncomputable def F77.d (call : CT) (lf ro : Nat) (args : List Value) (h : Heap) : Out :=
  consK args fun u137 q138 =>
  strK u137 fun s140 =>
  consK q138 fun u142 q143 =>
  intK .i64 u142 fun n145 =>
  nilK q143 <|
  F77.t call lf ro s140 n145 h
theorem F77.dle (call : CT) (lf ro : Nat) (args : List Value) (h : Heap) : LeO (F77.d call lf ro args h) (callBy Tryd.prog noOra call lf ro 77 args h) := by
  have e : callBy Tryd.prog noOra call lf ro 77 args h = bodyK Tryd.prog call lf ro Tryd.f77 args h := by unfold callBy noOra; simp only [Tryd.func77]
  rw [e]
  unfold F77.d
  refine consK_le fun u137 q138 z139 => ?_
  subst z139
  refine strK_le fun s140 z141 => ?_
  subst z141
  refine consK_le fun u142 q143 z144 => ?_
  subst z144
  refine intK_le fun n145 z146 => ?_
  subst z146
  refine nilK_le fun z147 => ?_
  subst z147
  exact F77.le call lf ro s140 n145 h
noncomputable def F80.d (call : CT) (lf ro : Nat) (args : List Value) (h : Heap) : Out :=
  consK args fun u33 q34 =>
  strK u33 fun s36 =>
  nilK q34 <|
  F80.t call lf ro s36 h
theorem F80.dle (call : CT) (lf ro : Nat) (args : List Value) (h : Heap) : LeO (F80.d call lf ro args h) (callBy Tryd.prog noOra call lf ro 80 args h) := by
  have e : callBy Tryd.prog noOra call lf ro 80 args h = bodyK Tryd.prog call lf ro Tryd.f80 args h := by unfold callBy noOra; simp only [Tryd.func80]
  rw [e]
  unfold F80.d
  refine consK_le fun u33 q34 z35 => ?_
  subst z35
  refine strK_le fun s36 z37 => ?_
  subst z37
  refine nilK_le fun z38 => ?_
  subst z38
  exact F80.le call lf ro s36 h
noncomputable def F81.d (call : CT) (lf ro : Nat) (args : List Value) (h : Heap) : Out :=
  consK args fun u67 q68 =>
  strK u67 fun s70 =>
  nilK q68 <|
  F81.t call lf ro s70 h
theorem F81.dle (call : CT) (lf ro : Nat) (args : List Value) (h : Heap) : LeO (F81.d call lf ro args h) (callBy Tryd.prog noOra call lf ro 81 args h) := by
  have e : callBy Tryd.prog noOra call lf ro 81 args h = bodyK Tryd.prog call lf ro Tryd.f81 args h := by unfold callBy noOra; simp only [Tryd.func81]
  rw [e]
  unfold F81.d
  refine consK_le fun u67 q68 z69 => ?_
  subst z69
  refine strK_le fun s70 z71 => ?_
  subst z71
  refine nilK_le fun z72 => ?_
  subst z72
  exact F81.le call lf ro s70 h
noncomputable def alv.disp (call : CT) (lf ro : Nat) (f : FuncId) (args : List Value) (h : Heap) : Out :=
  ifK (Nat.ble f 46) (ifK (Nat.ble f 27) (ifK (Nat.ble f 18) (ifK (Nat.ble f 14) (ifK (Nat.ble f 11) (ifK (f == 11) (F11.d call lf ro args h) .fail) (ifK (Nat.ble f 12) (ifK (f == 12) (F12.d call lf ro args h) .fail) (ifK (f == 14) (F14.d call lf ro args h) .fail))) (ifK (Nat.ble f 15) (ifK (f == 15) (F15.d call lf ro args h) .fail) (ifK (Nat.ble f 16) (ifK (f == 16) (F16.d call lf ro args h) .fail) (ifK (f == 18) (F18.d call lf ro args h) .fail)))) (ifK (Nat.ble f 23) (ifK (Nat.ble f 20) (ifK (f == 20) (F20.d call lf ro args h) .fail) (ifK (Nat.ble f 22) (ifK (f == 22) (F22.d call lf ro args h) .fail) (ifK (f == 23) (F23.d call lf ro args h) .fail))) (ifK (Nat.ble f 25) (ifK (Nat.ble f 24) (ifK (f == 24) (F24.d call lf ro args h) .fail) (ifK (f == 25) (F25.d call lf ro args h) .fail)) (ifK (Nat.ble f 26) (ifK (f == 26) (F26.d call lf ro args h) .fail) (ifK (f == 27) (F27.d call lf ro args h) .fail))))) (ifK (Nat.ble f 33) (ifK (Nat.ble f 30) (ifK (Nat.ble f 28) (ifK (f == 28) (F28.d call lf ro args h) .fail) (ifK (Nat.ble f 29) (ifK (f == 29) (F29.d call lf ro args h) .fail) (ifK (f == 30) (F30.d call lf ro args h) .fail))) (ifK (Nat.ble f 31) (ifK (f == 31) (F31.d call lf ro args h) .fail) (ifK (Nat.ble f 32) (ifK (f == 32) (F32.d call lf ro args h) .fail) (ifK (f == 33) (F33.d call lf ro args h) .fail)))) (ifK (Nat.ble f 40) (ifK (Nat.ble f 34) (ifK (f == 34) (F34.d call lf ro args h) .fail) (ifK (Nat.ble f 35) (ifK (f == 35) (F35.d call lf ro args h) .fail) (ifK (f == 40) (F40.d call lf ro args h) .fail))) (ifK (Nat.ble f 44) (ifK (Nat.ble f 41) (ifK (f == 41) (F41.d call lf ro args h) .fail) (ifK (f == 44) (F44.d call lf ro args h) .fail)) (ifK (Nat.ble f 45) (ifK (f == 45) (F45.d call lf ro args h) .fail) (ifK (f == 46) (F46.d call lf ro args h) .fail)))))) (ifK (Nat.ble f 63) (ifK (Nat.ble f 52) (ifK (Nat.ble f 49) (ifK (Nat.ble f 47) (ifK (f == 47) (F47.d call lf ro args h) .fail) (ifK (Nat.ble f 48) (ifK (f == 48) (F48.d call lf ro args h) .fail) (ifK (f == 49) (F49.d call lf ro args h) .fail))) (ifK (Nat.ble f 50) (ifK (f == 50) (F50.d call lf ro args h) .fail) (ifK (Nat.ble f 51) (ifK (f == 51) (F51.d call lf ro args h) .fail) (ifK (f == 52) (F52.d call lf ro args h) .fail)))) (ifK (Nat.ble f 55) (ifK (Nat.ble f 53) (ifK (f == 53) (F53.d call lf ro args h) .fail) (ifK (Nat.ble f 54) (ifK (f == 54) (F54.d call lf ro args h) .fail) (ifK (f == 55) (F55.d call lf ro args h) .fail))) (ifK (Nat.ble f 58) (ifK (Nat.ble f 56) (ifK (f == 56) (F56.d call lf ro args h) .fail) (ifK (f == 58) (F58.d call lf ro args h) .fail)) (ifK (Nat.ble f 62) (ifK (f == 62) (F62.d call lf ro args h) .fail) (ifK (f == 63) (F63.d call lf ro args h) .fail))))) (ifK (Nat.ble f 72) (ifK (Nat.ble f 66) (ifK (Nat.ble f 64) (ifK (f == 64) (F64.d call lf ro args h) .fail) (ifK (Nat.ble f 65) (ifK (f == 65) (F65.d call lf ro args h) .fail) (ifK (f == 66) (F66.d call lf ro args h) .fail))) (ifK (Nat.ble f 70) (ifK (Nat.ble f 69) (ifK (f == 69) (F69.d call lf ro args h) .fail) (ifK (f == 70) (F70.d call lf ro args h) .fail)) (ifK (Nat.ble f 71) (ifK (f == 71) (F71.d call lf ro args h) .fail) (ifK (f == 72) (F72.d call lf ro args h) .fail)))) (ifK (Nat.ble f 75) (ifK (Nat.ble f 73) (ifK (f == 73) (F73.d call lf ro args h) .fail) (ifK (Nat.ble f 74) (ifK (f == 74) (F74.d call lf ro args h) .fail) (ifK (f == 75) (F75.d call lf ro args h) .fail))) (ifK (Nat.ble f 77) (ifK (Nat.ble f 76) (ifK (f == 76) (F76.d call lf ro args h) .fail) (ifK (f == 77) (F77.d call lf ro args h) .fail)) (ifK (Nat.ble f 80) (ifK (f == 80) (F80.d call lf ro args h) .fail) (ifK (f == 81) (F81.d call lf ro args h) .fail))))))
theorem alv.disp_le (call : CT) (lf ro : Nat) (f : FuncId) (args : List Value) (h : Heap) : LeO (alv.disp call lf ro f args h) (callBy Tryd.prog noOra call lf ro f args h) :=
  (ifK_le (fun _ => (ifK_le (fun _ => (ifK_le (fun _ => (ifK_le (fun _ => (ifK_le (fun _ => (ifK_le (fun e => by have e := eq_of_beq e; subst e; exact F11.dle call lf ro args h) fun _ => LeO.fail _)) fun _ => (ifK_le (fun _ => (ifK_le (fun e => by have e := eq_of_beq e; subst e; exact F12.dle call lf ro args h) fun _ => LeO.fail _)) fun _ => (ifK_le (fun e => by have e := eq_of_beq e; subst e; exact F14.dle call lf ro args h) fun _ => LeO.fail _)))) fun _ => (ifK_le (fun _ => (ifK_le (fun e => by have e := eq_of_beq e; subst e; exact F15.dle call lf ro args h) fun _ => LeO.fail _)) fun _ => (ifK_le (fun _ => (ifK_le (fun e => by have e := eq_of_beq e; subst e; exact F16.dle call lf ro args h) fun _ => LeO.fail _)) fun _ => (ifK_le (fun e => by have e := eq_of_beq e; subst e; exact F18.dle call lf ro args h) fun _ => LeO.fail _))))) fun _ => (ifK_le (fun _ => (ifK_le (fun _ => (ifK_le (fun e => by have e := eq_of_beq e; subst e; exact F20.dle call lf ro args h) fun _ => LeO.fail _)) fun _ => (ifK_le (fun _ => (ifK_le (fun e => by have e := eq_of_beq e; subst e; exact F22.dle call lf ro args h) fun _ => LeO.fail _)) fun _ => (ifK_le (fun e => by have e := eq_of_beq e; subst e; exact F23.dle call lf ro args h) fun _ => LeO.fail _)))) fun _ => (ifK_le (fun _ => (ifK_le (fun _ => (ifK_le (fun e => by have e := eq_of_beq e; subst e; exact F24.dle call lf ro args h) fun _ => LeO.fail _)) fun _ => (ifK_le (fun e => by have e := eq_of_beq e; subst e; exact F25.dle call lf ro args h) fun _ => LeO.fail _))) fun _ => (ifK_le (fun _ => (ifK_le (fun e => by have e := eq_of_beq e; subst e; exact F26.dle call lf ro args h) fun _ => LeO.fail _)) fun _ => (ifK_le (fun e => by have e := eq_of_beq e; subst e; exact F27.dle call lf ro args h) fun _ => LeO.fail _)))))) fun _ => (ifK_le (fun _ => (ifK_le (fun _ => (ifK_le (fun _ => (ifK_le (fun e => by have e := eq_of_beq e; subst e; exact F28.dle call lf ro args h) fun _ => LeO.fail _)) fun _ => (ifK_le (fun _ => (ifK_le (fun e => by have e := eq_of_beq e; subst e; exact F29.dle call lf ro args h) fun _ => LeO.fail _)) fun _ => (ifK_le (fun e => by have e := eq_of_beq e; subst e; exact F30.dle call lf ro args h) fun _ => LeO.fail _)))) fun _ => (ifK_le (fun _ => (ifK_le (fun e => by have e := eq_of_beq e; subst e; exact F31.dle call lf ro args h) fun _ => LeO.fail _)) fun _ => (ifK_le (fun _ => (ifK_le (fun e => by have e := eq_of_beq e; subst e; exact F32.dle call lf ro args h) fun _ => LeO.fail _)) fun _ => (ifK_le (fun e => by have e := eq_of_beq e; subst e; exact F33.dle call lf ro args h) fun _ => LeO.fail _))))) fun _ => (ifK_le (fun _ => (ifK_le (fun _ => (ifK_le (fun e => by have e := eq_of_beq e; subst e; exact F34.dle call lf ro args h) fun _ => LeO.fail _)) fun _ => (ifK_le (fun _ => (ifK_le (fun e => by have e := eq_of_beq e; subst e; exact F35.dle call lf ro args h) fun _ => LeO.fail _)) fun _ => (ifK_le (fun e => by have e := eq_of_beq e; subst e; exact F40.dle call lf ro args h) fun _ => LeO.fail _)))) fun _ => (ifK_le (fun _ => (ifK_le (fun _ => (ifK_le (fun e => by have e := eq_of_beq e; subst e; exact F41.dle call lf ro args h) fun _ => LeO.fail _)) fun _ => (ifK_le (fun e => by have e := eq_of_beq e; subst e; exact F44.dle call lf ro args h) fun _ => LeO.fail _))) fun _ => (ifK_le (fun _ => (ifK_le (fun e => by have e := eq_of_beq e; subst e; exact F45.dle call lf ro args h) fun _ => LeO.fail _)) fun _ => (ifK_le (fun e => by have e := eq_of_beq e; subst e; exact F46.dle call lf ro args h) fun _ => LeO.fail _))))))) fun _ => (ifK_le (fun _ => (ifK_le (fun _ => (ifK_le (fun _ => (ifK_le (fun _ => (ifK_le (fun e => by have e := eq_of_beq e; subst e; exact F47.dle call lf ro args h) fun _ => LeO.fail _)) fun _ => (ifK_le (fun _ => (ifK_le (fun e => by have e := eq_of_beq e; subst e; exact F48.dle call lf ro args h) fun _ => LeO.fail _)) fun _ => (ifK_le (fun e => by have e := eq_of_beq e; subst e; exact F49.dle call lf ro args h) fun _ => LeO.fail _)))) fun _ => (ifK_le (fun _ => (ifK_le (fun e => by have e := eq_of_beq e; subst e; exact F50.dle call lf ro args h) fun _ => LeO.fail _)) fun _ => (ifK_le (fun _ => (ifK_le (fun e => by have e := eq_of_beq e; subst e; exact F51.dle call lf ro args h) fun _ => LeO.fail _)) fun _ => (ifK_le (fun e => by have e := eq_of_beq e; subst e; exact F52.dle call lf ro args h) fun _ => LeO.fail _))))) fun _ => (ifK_le (fun _ => (ifK_le (fun _ => (ifK_le (fun e => by have e := eq_of_beq e; subst e; exact F53.dle call lf ro args h) fun _ => LeO.fail _)) fun _ => (ifK_le (fun _ => (ifK_le (fun e => by have e := eq_of_beq e; subst e; exact F54.dle call lf ro args h) fun _ => LeO.fail _)) fun _ => (ifK_le (fun e => by have e := eq_of_beq e; subst e; exact F55.dle call lf ro args h) fun _ => LeO.fail _)))) fun _ => (ifK_le (fun _ => (ifK_le (fun _ => (ifK_le (fun e => by have e := eq_of_beq e; subst e; exact F56.dle call lf ro args h) fun _ => LeO.fail _)) fun _ => (ifK_le (fun e => by have e := eq_of_beq e; subst e; exact F58.dle call lf ro args h) fun _ => LeO.fail _))) fun _ => (ifK_le (fun _ => (ifK_le (fun e => by have e := eq_of_beq e; subst e; exact F62.dle call lf ro args h) fun _ => LeO.fail _)) fun _ => (ifK_le (fun e => by have e := eq_of_beq e; subst e; exact F63.dle call lf ro args h) fun _ => LeO.fail _)))))) fun _ => (ifK_le (fun _ => (ifK_le (fun _ => (ifK_le (fun _ => (ifK_le (fun e => by have e := eq_of_beq e; subst e; exact F64.dle call lf ro args h) fun _ => LeO.fail _)) fun _ => (ifK_le (fun _ => (ifK_le (fun e => by have e := eq_of_beq e; subst e; exact F65.dle call lf ro args h) fun _ => LeO.fail _)) fun _ => (ifK_le (fun e => by have e := eq_of_beq e; subst e; exact F66.dle call lf ro args h) fun _ => LeO.fail _)))) fun _ => (ifK_le (fun _ => (ifK_le (fun _ => (ifK_le (fun e => by have e := eq_of_beq e; subst e; exact F69.dle call lf ro args h) fun _ => LeO.fail _)) fun _ => (ifK_le (fun e => by have e := eq_of_beq e; subst e; exact F70.dle call lf ro args h) fun _ => LeO.fail _))) fun _ => (ifK_le (fun _ => (ifK_le (fun e => by have e := eq_of_beq e; subst e; exact F71.dle call lf ro args h) fun _ => LeO.fail _)) fun _ => (ifK_le (fun e => by have e := eq_of_beq e; subst e; exact F72.dle call lf ro args h) fun _ => LeO.fail _))))) fun _ => (ifK_le (fun _ => (ifK_le (fun _ => (ifK_le (fun e => by have e := eq_of_beq e; subst e; exact F73.dle call lf ro args h) fun _ => LeO.fail _)) fun _ => (ifK_le (fun _ => (ifK_le (fun e => by have e := eq_of_beq e; subst e; exact F74.dle call lf ro args h) fun _ => LeO.fail _)) fun _ => (ifK_le (fun e => by have e := eq_of_beq e; subst e; exact F75.dle call lf ro args h) fun _ => LeO.fail _)))) fun _ => (ifK_le (fun _ => (ifK_le (fun _ => (ifK_le (fun e => by have e := eq_of_beq e; subst e; exact F76.dle call lf ro args h) fun _ => LeO.fail _)) fun _ => (ifK_le (fun e => by have e := eq_of_beq e; subst e; exact F77.dle call lf ro args h) fun _ => LeO.fail _))) fun _ => (ifK_le (fun _ => (ifK_le (fun e => by have e := eq_of_beq e; subst e; exact F80.dle call lf ro args h) fun _ => LeO.fail _)) fun _ => (ifK_le (fun e => by have e := eq_of_beq e; subst e; exact F81.dle call lf ro args h) fun _ => LeO.fail _)))))))
noncomputable def alv.sys (lf : Nat) : Nat → CT
  | 0 => fun _ _ _ _ => .fail
  | n + 1 => fun ro f args h => alv.disp (alv.sys lf n) lf ro f args h
theorem alv.good (lf : Nat) : ∀ n, Good1 Tryd.prog noOra (alv.sys lf n)
  | 0 => fun _ _ _ _ hn => absurd rfl hn
  | n + 1 => good_le (callBy_ok (alv.good lf n) lf) fun ro f args h => alv.disp_le _ lf ro f args h
end Go.Proofs.YtfadfpcelhdfbaaDoor

open Go Go.Abs Go.Proofs
set_option maxRecDepth 100000
namespace Go.Proofs.YtfadfpcelhdfbaaDoor
theorem mixed : Tryd.prog.follows .mixedOrders = true := by kernel_rfl
def ngB (P : Program) : Bool := P.funcs.toList.all fun fn => !(fn.name == "runtime.NumGoroutine")
theorem ng0 : ngB Tryd.prog = true := by kernel_rfl
theorem ng_of {P : Program} (h : ngB P = true) : NoNG P := fun f fn hf => by
  unfold ngB at h
  rw [List.all_eq_true] at h
  have := h fn (by rw [Array.mem_toList_iff]; exact Array.mem_of_getElem? hf)
  simpa using this
def isT : Out → Bool
  | .ok (.bool true) _ => true
  | _ => false
theorem isT_ok {o : Out} (h : isT o = true) : ∃ h', o = .ok (.bool true) h' := by
  unfold isT at h
  split at h
  · exact ⟨_, rfl⟩
  · cases h
/-- THE EXAMPLES HOLD. -/
theorem ex11 : isT (alv.sys 100000 1000 3 11 [] (H0 Tryd.prog)) = true := by kernel_rfl
theorem g3 : Tryd.prog.globals.size = 3 := by kernel_rfl
theorem ex11_ok {ro0 B0 : Nat} {w0 w : World} {μ : Mu} {h : Heap} (hr : HR Tryd.prog ro0 B0 w0 μ h w) : Calls Tryd.prog 11 #[] w (Ret Tryd.prog ro0 B0 w0 μ h (.bool true)) := by
  obtain ⟨h', he⟩ := isT_ok ex11
  obtain ⟨n, hn⟩ := good_call (alv.good 100000 1000) he
  exact closed_ok mixed (ng_of ng0) noOra_ok (n := n) (by decide) (by kernel_rfl) (by rw [g3]; exact hn) hr
end Go.Proofs.YtfadfpcelhdfbaaDoor
